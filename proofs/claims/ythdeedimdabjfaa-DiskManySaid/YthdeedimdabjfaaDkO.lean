/-
  DiskMany walked: two disks, one given all rows at once, the other one row after the other. By the session itself.
-/
import Derived.Test.YthdeedimdabjfaaDkM
namespace Go.Proofs.Ythdeedimdabjfaa
set_option linter.unusedSimpArgs false
set_option linter.unusedVariables false
set_option maxRecDepth 100000
set_option maxHeartbeats 1000000
open Go.Vc Go.RowKit

/-- Two disks apart from each other, each of its own blocks. -/
def Tw (w0 w : World) (a : Nat) (D : Dsk) (b : Nat) (E : Dsk) : Prop := ∃ F G, Dk w a D F ∧ Dk w b E G ∧ (∀ i, F i → ¬ G i) ∧ Nf w0 F ∧ Nf w0 G ∧ Nw w0 w
theorem Tw.nw {w0 w w' : World} {a b : Nat} {D E : Dsk} (T : Tw w0 w a D b E) (k : Nw w w') : Tw w0 w' a D b E := by
  obtain ⟨F, G, h1, h2, h3, h4, h5, h6⟩ := T
  exact ⟨F, G, h1.nw k, h2.nw k, h3, h4, h5, h6.nw k⟩
theorem Tw.sw {w0 w : World} {a b : Nat} {D E : Dsk} (T : Tw w0 w a D b E) : Tw w0 w b E a D := by
  obtain ⟨F, G, h1, h2, h3, h4, h5, h6⟩ := T
  exact ⟨G, F, h2, h1, fun i hg hf => h3 i hf hg, h5, h4, h6⟩
theorem Tw.on {w0 w : World} {a b : Nat} {D E : Dsk} (T : Tw w0 w a D b E) : Nw w0 w := by
  obtain ⟨F, G, h1, h2, h3, h4, h5, h6⟩ := T
  exact h6
theorem Tw.ok {w0 w : World} {a b : Nat} {D E : Dsk} (T : Tw w0 w a D b E) : D.Ok := by
  obtain ⟨F, G, h1, h2, h3, h4, h5, h6⟩ := T
  exact h1.ok
theorem Tw.call {w0 w w1 : World} {a b : Nat} {D E D' : Dsk} {k : FuncId} {args : Array Value} {u : Value} (T : Tw w0 w a D b E) (k1 : Nw w w1)
    (h : ∀ F, Dk w a D F → Dk w1 a D F → Cal Try.prog k args w1 fun v w' => v = u ∧ ∃ F', Dk w' a D' F' ∧ Gr F F' w1 w' ∧ Kp F w1 w') : Cal Try.prog k args w1 fun v w' => v = u ∧ Tw w0 w' a D' b E := by
  obtain ⟨F, G, h1, h2, h3, h4, h5, h6⟩ := T
  refine (h F h1 (h1.nw k1)).mono ?_
  rintro v w' ⟨hv, F', hD, hG, hK⟩
  have h2' := h2.nw k1
  exact ⟨hv, F', G, hD, h2'.kp hK (fun i hg hf => h3 i hf hg), Gr.dj hG h3 h2'.lt, h4.gr hG (h6.nw k1).size, h5, Nw.at_ (h6.nw k1) hK h4⟩
theorem Tw.sync {w0 w : World} {a b : Nat} {D E : Dsk} (ns : List Nm) (n : Nat) (hn : n = ns.length) (hl : ns.length ≤ 140737488355328) (hs : ∀ s ∈ ns, s.length ≤ 9223372036854775807) (vs : Array Value) (hv : vs.toList = ns.map fun s => str s) (T : Tw w0 w a D b E) :
    Cal Try.prog 17 #[.pointer (some ⟨a, 0, none⟩), .slice (some ⟨w.heap.size, 0, none⟩) n n] (w.alloc (.cells vs 9)) fun v w' => v = i64 (dEach fSync D ns).2 ∧ Tw w0 w' a (dEach fSync D ns).1 b E := by
  subst hn
  exact T.call ((Kp.refl _ _).alloc _) fun F h0 h => dsync_spec ns _ _ a D F _ h (Rd.fresh rfl hv) (h0.ofl_new (Nat.le_refl _) _) hl hs
theorem Tw.remove {w0 w : World} {a b : Nat} {D E : Dsk} (ns : List Nm) (n : Nat) (hn : n = ns.length) (hl : ns.length ≤ 140737488355328) (hs : ∀ s ∈ ns, s.length ≤ 9223372036854775807) (vs : Array Value) (hv : vs.toList = ns.map fun s => str s) (T : Tw w0 w a D b E) :
    Cal Try.prog 23 #[.pointer (some ⟨a, 0, none⟩), .slice (some ⟨w.heap.size, 0, none⟩) n n] (w.alloc (.cells vs 9)) fun v w' => v = i64 (dEach fRemove D ns).2 ∧ Tw w0 w' a (dEach fRemove D ns).1 b E := by
  subst hn
  exact T.call ((Kp.refl _ _).alloc _) fun F h0 h => dremove_spec ns _ _ a D F _ h (Rd.fresh rfl hv) (h0.ofl_new (Nat.le_refl _) _) hl hs
theorem Tw.sync0 {w0 w : World} {a b : Nat} {D E : Dsk} (T : Tw w0 w a D b E) :
    Cal Try.prog 17 #[.pointer (some ⟨a, 0, none⟩), .slice none 0 0] w fun v w' => v = i64 0 ∧ Tw w0 w' a D b E :=
  T.call (Kp.refl _ _) fun F _ h => dsync_spec [] none 0 a D F _ h (Rd.nil _ _) (fun _ h => by cases h) (by simp) (by simp)
theorem Tw.append {w0 w : World} {a b : Nat} {D E : Dsk} (s : Nm) (ps : List (List UInt8)) (A : Option Addr) (c : Nat) (hr : Brs w A ps fun _ => False) (hc : ps.length ≤ c) (hp : ps.length ≤ 140737488355328) (hl : ps.flatten.length ≤ 140737488355328) (hsl : s.length ≤ 9223372036854775807) (T : Tw w0 w a D b E) :
    Cal Try.prog 16 #[.pointer (some ⟨a, 0, none⟩), str s, .slice A ps.length c] w fun v w' => v = i64 (dAppend D s ps.flatten).2 ∧ Tw w0 w' a (dAppend D s ps.flatten).1 b E :=
  T.call (Kp.refl _ _) fun F _ h => dappend_spec s ps A c a D F _ w h hr hc hp hl hsl
theorem Tw.append1 {w0 w : World} {a b x : Nat} {X : Option Addr} {D E : Dsk} (s : Nm) (p : List UInt8) (n : Nat) (hn : n = p.length) (hr : Rd w X (p.map u8)) (hx : p.length ≤ x) (hl : p.length ≤ 140737488355328) (hsl : s.length ≤ 9223372036854775807) (T : Tw w0 w a D b E) :
    Cal Try.prog 16 #[.pointer (some ⟨a, 0, none⟩), str s, .slice (some ⟨w.heap.size, 0, none⟩) 1 1] (w.alloc (.cells #[.slice X n x] 23)) fun v w' => v = i64 (dAppend D s p).2 ∧ Tw w0 w' a (dAppend D s p).1 b E := by
  subst hn
  have k : Nw w (w.alloc (.cells #[.slice X p.length x] 23)) := (Kp.refl _ _).alloc _
  refine T.call k fun F _ h => ?_
  have := dappend_spec s [p] (some ⟨w.heap.size, 0, none⟩) 1 a D F (fun _ => False) _ h (Brs.one (p := p) (d := x) (Blk.fresh rfl) (fun h => h) (hr.nw k) (fun _ _ h => h) hx) (by simp) (by simp) (by simpa using hl) hsl
  rwa [show ([p] : List (List UInt8)).flatten = p by simp] at this
theorem Tw.crash {w0 w : World} {a b : Nat} {D E : Dsk} (n : Int) (T : Tw w0 w a D b E) :
    Cal Try.prog 18 #[.pointer (some ⟨a, 0, none⟩), i64 n] w fun v w' => v = .tuple #[] ∧ Tw w0 w' a (dCrash D n) b E := by
  refine T.call (Kp.refl _ _) fun F _ h => (dcrash_spec n a D F w h).mono ?_
  rintro v w' ⟨e, h, k⟩
  exact ⟨e, F, h, fun i hi => .inl hi, k⟩
theorem Tw.read {w0 w : World} {a b : Nat} {D E : Dsk} (s : Nm) (T : Tw w0 w a D b E) :
    Cal Try.prog 19 #[.pointer (some ⟨a, 0, none⟩), str s] w fun v w' => Nw w w' ∧ ∃ u, v = .tuple #[u, i64 (dRead D s).2] ∧ Bs w' u (dRead D s).1 w.heap.size := by
  obtain ⟨F, G, h1, h2, h3, h4, h5, h6⟩ := T
  exact dread_spec s a D F w h1

theorem Brs.nil (w : World) : Brs w none [] fun _ => False := ⟨[], rfl, Rd.nil _ _, (fun a ha => by cases ha), (fun i h => absurd h (Nat.not_lt_zero i))⟩
/-- Two files. -/
def fs2 (b : List UInt8) (l : Nat) (c : List UInt8) (m : Nat) : Dsk := ⟨1048576, [([120], ⟨b, l⟩), ([121], ⟨c, m⟩)], none⟩
theorem mayL2 {b c : List UInt8} {l m : Nat} {s : Nm} (hs : badN s = false) : mayL (fs2 b l c m) [s] = 0 := mayL_none hs
theorem sx {b c : List UInt8} {l m : Nat} : dEach fSync (fs2 b l c m) [[120]] = (fs2 b b.length c m, 0) := dn_sync
theorem stx {b c : List UInt8} {l m : Nat} : dStep fSync (fs2 b l c m) [120] = (fs2 b b.length c m, 0) := by
  unfold dStep
  rw [mayL2 bad120, if_neg (fun h => h rfl)]
  simp [fs2, tLook, fSync, tLay, nm_lt_irrefl, Dsk.done, lt_xy]
theorem sty {b c : List UInt8} {l m : Nat} : dStep fSync (fs2 b l c m) [121] = (fs2 b l c c.length, 0) := by
  unfold dStep
  rw [mayL2 bad121, if_neg (fun h => h rfl)]
  simp [fs2, tLook, fSync, tLay, nm_lt_irrefl, Dsk.done, lt_xy]
theorem stz {b c : List UInt8} {l m : Nat} : dStep fSync (fs2 b l c m) [122] = (fs2 b l c m, 7) := by
  unfold dStep
  rw [mayL2 bad122, if_neg (fun h => h rfl)]
  simp [fs2, tLook]
theorem sxy {b c : List UInt8} {l m : Nat} : dEach fSync (fs2 b l c m) [[120], [121]] = (fs2 b b.length c c.length, 0) := by simp [dEach, stx, sty]
theorem sy {b c : List UInt8} {l m : Nat} : dEach fSync (fs2 b l c m) [[121]] = (fs2 b l c c.length, 0) := by simp [dEach, sty]
theorem sxzy {b c : List UInt8} {l m : Nat} : dEach fSync (fs2 b l c m) [[120], [122], [121]] = (fs2 b b.length c m, 7) := by simp [dEach, stx, stz]
theorem rxy {b c : List UInt8} {l m : Nat} : dEach fRemove (fs2 b l c m) [[120], [121]] = (⟨1048576, [], none⟩, 0) := by
  have h1 : dStep fRemove (fs2 b l c m) [120] = (⟨1048576, [([121], ⟨c, m⟩)], none⟩, 0) := by
    unfold dStep
    rw [mayL2 bad120, if_neg (fun h => h rfl)]
    simp [fs2, tLook, fRemove, tGone, Dsk.done]
  have h2 : dStep fRemove ⟨1048576, [([121], ⟨c, m⟩)], none⟩ [121] = (⟨1048576, [], none⟩, 0) := by
    unfold dStep
    rw [mayL_none bad121, if_neg (fun h => h rfl)]
    simp [tLook, fRemove, tGone, Dsk.done]
  simp [dEach, h1, h2]
theorem rx0 : dEach fRemove ⟨1048576, [], none⟩ [[120]] = (⟨1048576, [], none⟩, 7) := by
  have h1 : dStep fRemove ⟨1048576, [], none⟩ [120] = (⟨1048576, [], none⟩, 7) := by
    unfold dStep
    rw [mayL_none bad120, if_neg (fun h => h rfl)]
    simp [tLook]
  simp [dEach, h1]
theorem cr2 {b c : List UInt8} {l m : Nat} (n : Int) : ∃ b' l' c' m', dCrash (fs2 b l c m) n = fs2 b' l' c' m' := ⟨_, _, _, _, rfl⟩
theorem rd_x {b c : List UInt8} {l m : Nat} : dRead (fs2 b l c m) [120] = (b, 0) := by simp [dRead, fs2, tLook]
theorem rd_y {b c : List UInt8} {l m : Nat} : dRead (fs2 b l c m) [121] = (c, 0) := by simp [dRead, fs2, tLook]

theorem dmany_law (ps : List (List UInt8)) (tw : Bool) (dr : Int) (A : Option Addr) (c : Nat) (w : World) (hr : Brs w A ps fun _ => False) (hc : ps.length ≤ c) (hm : ∀ p ∈ ps, p.length ≤ 140737488355328) (hpl : ps.length ≤ 140737488355328) :
    Cal Try.prog 7 #[.slice A ps.length c, .bool tw, i64 dr] w fun v w' => v = .bool true ∧ Nw w w' := by
  refine enter Try.mixed Try.func7 rfl (by kernel_rfl) ?_
  simp -dsimp [go_sem]
  refine loop [6, 7, 8, 22, 23, 24, 25, 26, 27, 28, 29, 30, 31, 32, 33, 34, 35, 36, 37, 38, 39, 40, 41, 42, 43] (by kernel_rfl)
    (fun f w' => Box2 (fun a b w' => ∃ (i n : Nat), i ≤ ps.length ∧ b = i64 i ∧ a = i64 n ∧ n = wei1 (ps.take i) ∧ n ≤ 8000 ∧ w' = w) (f 7) (f 8) w') (fun f _ => ps.length - (intOf (f 8)).toNat) ⟨0, 0, Nat.zero_le _, rfl, rfl, rfl, by simp, rfl⟩ ?_
  rintro f w' ⟨i, n, hi, f8, f7, hn, h8, rfl⟩
  by_cases hlt : i < ps.length
  · obtain ⟨vs, hvl, hrd, hoA, hi'⟩ := id hr
    obtain ⟨X, x, hv, hrX, hoX, hx⟩ := hi' i hlt
    obtain ⟨b, o, rfl, hcell⟩ := hrd i _ hv
    have hlen := hm ps[i] (List.getElem_mem hlt)
    have hat := wei1_at ps i hlt
    have h1 : IntKind.i64.wrap ((n : Int) + 1) = ((n + 1 : Nat) : Int) := w64 (by omega) (by omega)
    obtain ⟨n1, hn1⟩ : ∃ n1, n1 = n + 1 := ⟨_, rfl⟩
    have h2 : IntKind.i64.wrap ((n1 : Int) + (ps[i].length : Int)) = ((n1 + ps[i].length : Nat) : Int) := w64 (by omega) (by omega)
    obtain ⟨n2, hn2⟩ : ∃ n2, n2 = n1 + ps[i].length := ⟨_, rfl⟩
    have hk1 : IntKind.i64.wrap ((i : Int) + 1) = ((i + 1 : Nat) : Int) := w64 (by omega) (by omega)
    obtain ⟨k1, hk1'⟩ : ∃ k1, k1 = i + 1 := ⟨_, rfl⟩
    rw [← hn1] at h1
    rw [← hn2] at h2
    rw [← hk1'] at hk1 hat
    obtain ⟨pl, hpl'⟩ : ∃ pl, pl = ps[i].length := ⟨_, rfl⟩
    rw [← hpl'] at hcell h2 hn2 hat hlen
    by_cases hbig : 8000 < pl
    · have hbig' : (8000 : Int) < (pl : Int) := by omega
      simp -dsimp [go_sem, f7, f8, hlt, hcell, hbig, hbig']
      exact Kp.refl _ _
    · have hbig' : ¬ (8000 : Int) < (pl : Int) := by omega
      by_cases hsum : 8000 < n2
      · have hsum' : (8000 : Int) < (n2 : Int) := by omega
        simp -dsimp [go_sem, f7, f8, hlt, hcell, hbig, hbig', h1, h2, hsum, hsum']
        exact Kp.refl _ _
      · have hsum' : ¬ (8000 : Int) < (n2 : Int) := by omega
        simp -dsimp [go_sem, f7, f8, hlt, hcell, hbig, hbig', h1, h2, hsum, hsum', hk1]
        exact ⟨⟨k1, n2, by omega, rfl, rfl, by omega, by omega, rfl⟩, by simp [intOf]; omega⟩
  · obtain rfl : i = ps.length := by omega
    rw [List.take_length] at hn
    have hge := wei1_ge ps
    clear hm
    simp -dsimp [go_sem, f7, f8]
    refine call (new_spec 1048576 w') ?_
    rintro v w1 (⟨h, _⟩ | ⟨_, _, ga, F, rfl, hD, nF, hk1⟩)
    · omega
    simp -dsimp [go_sem]
    refine call (new_spec 1048576 w1) ?_
    rintro v w2 (⟨h, _⟩ | ⟨_, _, gb, G, rfl, hE, nG, hk2⟩)
    · omega
    have T2 : Tw w' w2 ga ⟨1048576, [], none⟩ gb ⟨1048576, [], none⟩ := ⟨F, G, hD.nw hk2, hE, fun i hf hg => by have := nG i hg; have := hD.lt i hf; omega, nF, fun i hg => Nat.le_trans hk1.size (nG i hg), hk1.nw hk2⟩
    have e1 : dAppend ⟨1048576, [], none⟩ [120] ps.flatten = (⟨1048576, [([120], ⟨ps.flatten, 0⟩)], none⟩, 0) := dApp0 bad120 (by omega)
    have e2 : dAppend ⟨1048576, [], none⟩ [120] ([] : List (List UInt8)).flatten = (⟨1048576, [([120], ⟨[], 0⟩)], none⟩, 0) := dApp0 bad120 (by simp)
    simp -dsimp [go_sem]
    refine call (Tw.append [120] ps A c (hr.nw T2.on) hc hpl (by omega) (by simp) T2) ?_
    rw [e1]
    rintro v w3 ⟨rfl, T3⟩
    simp -dsimp [go_sem]
    refine call (Tw.append [120] [] none 0 (Brs.nil _) (by simp) (by simp) (by simp) (by simp) T3.sw) ?_
    rw [e2]
    rintro v w4 ⟨rfl, T4⟩
    simp -dsimp [go_sem]
    refine loop [6, 13, 75, 76, 77, 78, 79, 80, 81, 82, 83, 84, 85, 86, 87, 88] (by kernel_rfl)
      (fun f w5 => Box1 (fun a w5 => ∃ i : Nat, i ≤ ps.length ∧ a = i64 i ∧ Tw w' w5 gb ⟨1048576, [([120], ⟨(ps.take i).flatten, 0⟩)], none⟩ ga ⟨1048576, [([120], ⟨ps.flatten, 0⟩)], none⟩) (f 13) w5)
      (fun f _ => ps.length - (intOf (f 13)).toNat) ⟨0, Nat.zero_le _, rfl, by simpa using T4⟩ ?_
    rintro f2 w5 ⟨i, hi, f13, T5⟩
    by_cases hlt : i < ps.length
    · obtain ⟨vs, hvl, hrd, hoA, hi'⟩ := id hr
      obtain ⟨X, x, hv, hrX, hoX, hx⟩ := hi' i hlt
      obtain ⟨b, o, rfl, hcell0⟩ := hrd i _ hv
      have hcell := T5.on.cell_some hcell0 fun h => h
      have hat := flat_at ps i hlt
      have hft1 := flat_take ps (i + 1)
      have hft2 := congrArg List.length hat
      rw [List.length_append] at hft2
      have e5 : dAppend ⟨1048576, [([120], ⟨(ps.take i).flatten, 0⟩)], none⟩ [120] ps[i] = (⟨1048576, [([120], ⟨(ps.take i).flatten ++ ps[i], 0⟩)], none⟩, 0) := dApp1 bad120 (by omega)
      rw [← hat] at e5
      have hk1 : IntKind.i64.wrap ((i : Int) + 1) = ((i + 1 : Nat) : Int) := w64 (by omega) (by omega)
      obtain ⟨k1, hk1'⟩ : ∃ k1, k1 = i + 1 := ⟨_, rfl⟩
      rw [← hk1'] at hk1 e5
      obtain ⟨p, hp⟩ : ∃ p, p = ps[i] := ⟨_, rfl⟩
      rw [← hp] at hcell0 hcell hrX hx hat hft2 e5
      simp -dsimp [go_sem, f13, hlt, hcell]
      refine call (Tw.append1 [120] p _ rfl (hrX.nw T5.on) hx (by omega) (by simp) T5) ?_
      rw [e5]
      rintro v w6 ⟨rfl, T6⟩
      simp -dsimp [go_sem, f13, hk1]
      exact ⟨⟨k1, by omega, rfl, T6⟩, by simp [intOf]; omega⟩
    · obtain rfl : i = ps.length := by omega
      rw [List.take_length] at T5
      have e6 : dAppend ⟨1048576, [([120], ⟨ps.flatten, 0⟩)], none⟩ [121] [49, 50] = (fs2 ps.flatten 0 [49, 50] 0, 0) := dn_y (by show ps.flatten.length + 2 ≤ _; omega)
      simp -dsimp [go_sem, f13]
      refine conv_const rfl rfl (Blk.new w5 _ _) ?_
      intro wc hkc hhc
      have kc : Nw w5 wc := Nw.at_ ((Kp.refl _ _).alloc _) hkc (Nf.at_ (Nat.le_refl _))
      simp -dsimp [go_sem]
      refine call (Tw.append1 [121] [49, 50] 2 rfl (Rd.of_heap hhc) (by simp) (by simp) (by simp) (Tw.nw T5.sw kc)) ?_
      rw [e6]
      rintro v w6 ⟨rfl, T6⟩
      simp -dsimp [go_sem]
      refine conv_const rfl rfl (Blk.new w6 _ _) ?_
      intro wc hkc hhc
      have kc : Nw w6 wc := Nw.at_ ((Kp.refl _ _).alloc _) hkc (Nf.at_ (Nat.le_refl _))
      simp -dsimp [go_sem]
      refine call (Tw.append1 [121] [49, 50] 2 rfl (Rd.of_heap hhc) (by simp) (by simp) (by simp) (Tw.nw T6.sw kc)) ?_
      rw [e6]
      rintro v w7 ⟨rfl, T7⟩
      have T7 := T7.sw
      cases tw with
      | false =>
        simp -dsimp [go_sem]
        refine call (Tw.sync [[120], [122], [121]] 3 rfl (by simp) (by simp) _ rfl T7) ?_
        rw [sxzy]
        rintro v w8 ⟨rfl, T8⟩
        simp -dsimp [go_sem]
        refine call (Tw.sync [[120]] 1 rfl (by simp) (by simp) _ rfl T8.sw) ?_
        rw [sx]
        rintro v w9 ⟨rfl, T9⟩
        simp -dsimp [go_sem]
        refine call T9.sw.sync0 ?_
        rintro v w10 ⟨rfl, T10⟩
        simp -dsimp [go_sem]
        refine call (T10.crash dr) ?_
        rintro v w11 ⟨rfl, T11⟩
        simp -dsimp [go_sem]
        refine call (T11.sw.crash dr) ?_
        rintro v w12 ⟨rfl, T12⟩
        have T12 := T12.sw
        obtain ⟨p, pl, q, ql, hcr⟩ := cr2 (b := ps.flatten) (l := ps.flatten.length) (c := [49, 50]) (m := 0) dr
        have e12 : ([49, 50] : List UInt8).length = 2 := rfl
        rw [hcr] at T12
        have hok := T12.ok.used
        have hpq : p.length + q.length ≤ 1048576 := by simpa [fs2, Dsk.used, sumv] using hok
        simp -dsimp [go_sem]
        refine call (T12.read [120]) ?_
        rw [rd_x]
        rintro v w13 ⟨hk13, u13, rfl, ⟨A13, c13, rfl, ho13, hA13⟩⟩
        have T13 := T12.nw hk13
        simp -dsimp [go_sem]
        refine call (T13.sw.read [120]) ?_
        rw [rd_x]
        rintro v w14 ⟨hk14, u14, rfl, ⟨A14, c14, rfl, ho14, hA14⟩⟩
        have T14 := T13.nw hk14
        simp -dsimp [go_sem]
        refine call (T14.read [121]) ?_
        rw [rd_y]
        rintro v w15 ⟨hk15, u15, rfl, ⟨A15, c15, rfl, ho15, hA15⟩⟩
        have T15 := T14.nw hk15
        simp -dsimp [go_sem]
        refine call (T15.sw.read [121]) ?_
        rw [rd_y]
        rintro v w16 ⟨hk16, u16, rfl, ⟨A16, c16, rfl, ho16, hA16⟩⟩
        have T16 := T15.nw hk16
        simp -dsimp [go_sem]
        refine call (dsame_spec A13 A14 c13 c14 p p w16 (((ho13.nw hk14).nw hk15).nw hk16).rd ((ho14.nw hk15).nw hk16).rd (by omega)) ?_
        rintro v w17 ⟨rfl, hk17⟩
        simp -dsimp [go_sem]
        refine call (dsame_spec A15 A16 c15 c16 q q w17 ((ho15.nw hk16).nw hk17).rd (ho16.nw hk17).rd (by omega)) ?_
        rintro v w18 ⟨rfl, hk18⟩
        have T18 := (T16.nw hk17).nw hk18
        simp -dsimp [go_sem]
        refine call (Tw.remove [[120], [121]] 2 rfl (by simp) (by simp) _ rfl T18) ?_
        rw [rxy]
        rintro v w19 ⟨rfl, T19⟩
        simp -dsimp [go_sem]
        obtain ⟨F19, G19, h19, _⟩ := id T19
        refine call (dlist_spec ga _ F19 w19 h19) ?_
        rintro v w20 ⟨hk20, A20, c20, rfl, hr20, _, _⟩
        have T20 := T19.nw hk20
        simp -dsimp [go_sem]
        refine call (Tw.remove [[120]] 1 rfl (by simp) (by simp) _ rfl T20) ?_
        rw [rx0]
        rintro v w21 ⟨rfl, T21⟩
        simp -dsimp [go_sem]
        refine call (dknown_spec w21) ?_
        rintro v w22 ⟨rfl, hk22⟩
        simp -dsimp [go_sem]
        exact T21.on.nw hk22
      | true =>
        simp -dsimp [go_sem]
        refine call (Tw.sync [[120], [121]] 2 rfl (by simp) (by simp) _ rfl T7) ?_
        rw [sxy]
        rintro v w7a ⟨rfl, T7a⟩
        simp -dsimp [go_sem]
        refine call (Tw.sync [[120]] 1 rfl (by simp) (by simp) _ rfl T7a.sw) ?_
        rw [sx]
        rintro v w7b ⟨rfl, T7b⟩
        simp -dsimp [go_sem]
        refine call (Tw.sync [[121]] 1 rfl (by simp) (by simp) _ rfl T7b) ?_
        rw [sy]
        rintro v w7c ⟨rfl, T7c⟩
        have T7 := T7c.sw
        simp -dsimp [go_sem]
        refine call (Tw.sync [[120], [122], [121]] 3 rfl (by simp) (by simp) _ rfl T7) ?_
        rw [sxzy]
        rintro v w8 ⟨rfl, T8⟩
        simp -dsimp [go_sem]
        refine call (Tw.sync [[120]] 1 rfl (by simp) (by simp) _ rfl T8.sw) ?_
        rw [sx]
        rintro v w9 ⟨rfl, T9⟩
        simp -dsimp [go_sem]
        refine call T9.sw.sync0 ?_
        rintro v w10 ⟨rfl, T10⟩
        simp -dsimp [go_sem]
        refine call (T10.crash dr) ?_
        rintro v w11 ⟨rfl, T11⟩
        simp -dsimp [go_sem]
        refine call (T11.sw.crash dr) ?_
        rintro v w12 ⟨rfl, T12⟩
        have T12 := T12.sw
        obtain ⟨p, pl, q, ql, hcr⟩ := cr2 (b := ps.flatten) (l := ps.flatten.length) (c := [49, 50]) (m := ([49, 50] : List UInt8).length) dr
        have e12 : ([49, 50] : List UInt8).length = 2 := rfl
        rw [hcr] at T12
        have hok := T12.ok.used
        have hpq : p.length + q.length ≤ 1048576 := by simpa [fs2, Dsk.used, sumv] using hok
        simp -dsimp [go_sem]
        refine call (T12.read [120]) ?_
        rw [rd_x]
        rintro v w13 ⟨hk13, u13, rfl, ⟨A13, c13, rfl, ho13, hA13⟩⟩
        have T13 := T12.nw hk13
        simp -dsimp [go_sem]
        refine call (T13.sw.read [120]) ?_
        rw [rd_x]
        rintro v w14 ⟨hk14, u14, rfl, ⟨A14, c14, rfl, ho14, hA14⟩⟩
        have T14 := T13.nw hk14
        simp -dsimp [go_sem]
        refine call (T14.read [121]) ?_
        rw [rd_y]
        rintro v w15 ⟨hk15, u15, rfl, ⟨A15, c15, rfl, ho15, hA15⟩⟩
        have T15 := T14.nw hk15
        simp -dsimp [go_sem]
        refine call (T15.sw.read [121]) ?_
        rw [rd_y]
        rintro v w16 ⟨hk16, u16, rfl, ⟨A16, c16, rfl, ho16, hA16⟩⟩
        have T16 := T15.nw hk16
        simp -dsimp [go_sem]
        refine call (dsame_spec A13 A14 c13 c14 p p w16 (((ho13.nw hk14).nw hk15).nw hk16).rd ((ho14.nw hk15).nw hk16).rd (by omega)) ?_
        rintro v w17 ⟨rfl, hk17⟩
        simp -dsimp [go_sem]
        refine call (dsame_spec A15 A16 c15 c16 q q w17 ((ho15.nw hk16).nw hk17).rd (ho16.nw hk17).rd (by omega)) ?_
        rintro v w18 ⟨rfl, hk18⟩
        have T18 := (T16.nw hk17).nw hk18
        simp -dsimp [go_sem]
        refine call (Tw.remove [[120], [121]] 2 rfl (by simp) (by simp) _ rfl T18) ?_
        rw [rxy]
        rintro v w19 ⟨rfl, T19⟩
        simp -dsimp [go_sem]
        obtain ⟨F19, G19, h19, _⟩ := id T19
        refine call (dlist_spec ga _ F19 w19 h19) ?_
        rintro v w20 ⟨hk20, A20, c20, rfl, hr20, _, _⟩
        have T20 := T19.nw hk20
        simp -dsimp [go_sem]
        refine call (Tw.remove [[120]] 1 rfl (by simp) (by simp) _ rfl T20) ?_
        rw [rx0]
        rintro v w21 ⟨rfl, T21⟩
        simp -dsimp [go_sem]
        refine call (dknown_spec w21) ?_
        rintro v w22 ⟨rfl, hk22⟩
        simp -dsimp [go_sem]
        exact T21.on.nw hk22
end Go.Proofs.Ythdeedimdabjfaa
