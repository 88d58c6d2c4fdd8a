/-
  LedgerTorn walked. By the session itself.
-/
import Derived.Test.YthonmjgagblogaaLgQ
import Derived.Test.YthonmjgagblogaaLgK
import Derived.Test.YthonmjgagblogaaJoin
namespace Go.Proofs.Ythonmjgagblogaa
set_option linter.unusedSimpArgs false
set_option linter.unusedVariables false
set_option maxRecDepth 100000
set_option maxHeartbeats 2000000
open Go.Vc Go.RowKit

/-- A disk, all of it new since w0. -/
def Dw (w0 w : World) (g : Nat) (D : Dsk) : Prop := ∃ F, Dk w g D F ∧ (∀ k, F k → w0.heap.size ≤ k) ∧ Nw w0 w
section
variable {w0 w w1 : World} {l g : Nat} {p : Nm} {D D' : Dsk} {L : Led}
theorem Lw.dw (T : Lw w0 w l g p D L) : Dw w0 w g D := by
  obtain ⟨F, G, V, h1, h2, h3, h4⟩ := T
  exact ⟨F, h1.dk, fun k hk => h3 k (h1.fv k hk), h4⟩
theorem Dw.nw (T : Dw w0 w g D) (k : Nw w w1) : Dw w0 w1 g D := by
  obtain ⟨F, h1, h2, h3⟩ := T
  exact ⟨F, h1.nw k, h2, h3.nw k⟩
theorem Dw.on (T : Dw w0 w g D) : Nw w0 w := by
  obtain ⟨F, h1, h2, h3⟩ := T
  exact h3
theorem Dw.call {k : FuncId} {args : Array Value} {u : Value} (T : Dw w0 w g D) (k1 : Nw w w1)
    (h : ∀ F, Dk w g D F → Dk w1 g D F → Cal Try.prog k args w1 fun v w' => v = u ∧ ∃ F', Dk w' g D' F' ∧ Gr F F' w1 w' ∧ Kp F w1 w') : Cal Try.prog k args w1 fun v w' => v = u ∧ Dw w0 w' g D' := by
  obtain ⟨F, h1, h2, h3⟩ := T
  refine (h F h1 (h1.nw k1)).mono ?_
  rintro v w' ⟨hv, F', hD, hG, hK⟩
  exact ⟨hv, F', hD, fun k hk => (hG k hk).elim (h2 k) fun e => Nat.le_trans (h3.nw k1).size e.1, (h3.nw k1).at_ hK h2⟩
theorem Dw.trunc (T : Dw w0 w g D) (s : Nm) (n : Int) (hs : s.length ≤ 9223372036854775807) : Cal Try.prog 47 #[.pointer (some ⟨g, 0, none⟩), str s, i64 n] w fun v w' => v = i64 (dTrunc D s n).2 ∧ Dw w0 w' g (dTrunc D s n).1 :=
  T.call (Kp.refl _ _) fun F _ h => dtrunc_spec s n g D F w h hs
theorem Dw.crash (T : Dw w0 w g D) (n : Int) : Cal Try.prog 17 #[.pointer (some ⟨g, 0, none⟩), i64 n] w fun v w' => v = .tuple #[] ∧ Dw w0 w' g (dCrash D n) :=
  T.call (Kp.refl _ _) fun F _ h => (dcrash_spec n g D F w h).mono fun v w' ⟨e, h, k⟩ => ⟨e, F, h, fun i hi => .inl hi, k⟩
theorem Dw.fuse (T : Dw w0 w g D) (n : Int) (hn : -9223372036854775808 ≤ n ∧ n ≤ 9223372036854775807) : Cal Try.prog 30 #[.pointer (some ⟨g, 0, none⟩), i64 n] w fun v w' => v = .tuple #[] ∧ Dw w0 w' g (dFuse D n) := by
  refine T.call (Kp.refl _ _) fun F _ h => (dfuse_spec n hn.2 g D F w h).mono fun v w' ⟨e, h', k⟩ => ⟨e, F, h', fun i hi => .inl hi, k.mono fun i _ (e : i = g) => by
    obtain ⟨_, _, _, _, _, hM⟩ := h
    exact e ▸ hM.fg⟩
end
/-- A ledger and a row of the law's own, apart. -/
def Lx (w0 w : World) (l g : Nat) (p : Nm) (D : Dsk) (L : Led) (A : Option Addr) : Prop := ∃ F G V, LS w l g p D L F G V ∧ L.Ok ∧ (∀ k, V k → w0.heap.size ≤ k) ∧ Nw w0 w ∧ ∀ k, blk A k → V k ∧ ¬ F k ∧ ¬ G k
section
variable {w0 w w1 : World} {l g : Nat} {p : Nm} {D D' : Dsk} {L : Led} {A : Option Addr}
theorem Lw.lx (T : Lw w0 w l g p D L) : Lx w0 w l g p D L none := by
  obtain ⟨F, G, V, h1, h2, h3, h4⟩ := T
  exact ⟨F, G, V, h1, h2, h3, h4, fun k hk => hk.elim⟩
theorem Lx.lw (T : Lx w0 w l g p D L A) : Lw w0 w l g p D L := by
  obtain ⟨F, G, V, h1, h2, h3, h4, _⟩ := T
  exact ⟨F, G, V, h1, h2, h3, h4⟩
theorem Lx.nw (T : Lx w0 w l g p D L A) (k : Nw w w1) : Lx w0 w1 l g p D L A := by
  obtain ⟨F, G, V, h1, h2, h3, h4, h5⟩ := T
  exact ⟨F, G, V, h1.nw k, h2, h3, h4.nw k, h5⟩
/-- The row has grown. -/
theorem Lx.push {A' : Option Addr} (T : Lx w0 w l g p D L A) (k : Kp (blk A) w w1) (hA : A' = A ∨ A' = some ⟨w.heap.size, 0, none⟩ ∧ w.heap.size < w1.heap.size) : Lx w0 w1 l g p D L A' := by
  obtain ⟨F, G, V, h1, h2, h3, h4, h5⟩ := T
  have hb : ∀ i, blk A' i → blk A i ∨ i = w.heap.size ∧ w.heap.size < w1.heap.size := fun i hi => by
    rcases hA with rfl | ⟨rfl, e⟩
    · exact .inl hi
    · exact .inr ⟨hi, e⟩
  refine ⟨F, G, fun i => V i ∨ blk A' i, ⟨h1.dk.kp k fun i hf hi => (h5 i hi).2.1 hf, h1.lg.step k (fun i hi => ⟨(h5 i hi).1, (h5 i hi).2.2⟩) (fun i hi => hi.elim .inl fun e => (hb i e).elim (fun e => .inl (h5 i e).1) fun e => .inr ⟨by omega, by omega⟩) fun i hi => .inl hi, fun i hi => .inl (h1.fv i hi), h1.dj⟩, h2, fun i hi => hi.elim (h3 i) fun e => (hb i e).elim (fun e => h3 i (h5 i e).1) fun e => by have := h4.size; omega, h4.at_ k fun i hi => h3 i (h5 i hi).1, fun i hi => ⟨.inr hi, fun hf => ?_, fun hg => ?_⟩⟩
  · rcases hb i hi with e | e
    · exact (h5 i e).2.1 hf
    · have := h1.dk.lt i hf; omega
  · rcases hb i hi with e | e
    · exact (h5 i e).2.2 hg
    · have := h1.lg.lt i (h1.lg.gv i hg); omega
theorem Lx.append {e : TypeId} {n c : Nat} {xs : List Value} (T : Lx w0 w l g p D L A) (hA : Ow w e 1 A n c xs) (hp : p.length ≤ 20) (b : List UInt8) (X : Option Addr) (x : Nat) (hX : Rd w0 X (b.map u8)) (hx : b.length ≤ x) (hb : b.length ≤ 140737488355328) :
    Cal Try.prog 41 #[.pointer (some ⟨l, 0, none⟩), .slice X b.length x] w fun v w' => v = .tuple #[i64 (lApp D p L b).2.2.1, i64 (lApp D p L b).2.2.2] ∧ Lx w0 w' l g p (lApp D p L b).1 (lApp D p L b).2.1 A ∧ Ow w' e 1 A n c xs := by
  obtain ⟨F, G, V, h1, h2, h3, h4, h5⟩ := T
  refine (lapp_spec l g p D L F G V b X x w h1 hp h2 (hX.nw h4) (hX.ofl fun k hk => h3 k hk) hx hb).mono ?_
  rintro v w' ⟨e, F1, G1, V1, h1', ch⟩
  refine ⟨e, ⟨F1, G1, V1, h1', lApp_ok h2 D p b, fun k hk => (ch.gV k hk).elim (h3 k) fun e => Nat.le_trans h4.size e.1, h4.at_ ch.kp fun k hk => hk.elim (fun e => h3 k (h1.fv k e)) fun e => h3 k (h1.lg.gv k e), fun k hk => ⟨ch.vv k (h5 k hk).1, fun hf => ?_, fun hg => ?_⟩⟩, hA.kp ch.kp (Off.of_blk fun i hi e => e.elim (h5 i hi).2.1 (h5 i hi).2.2)⟩
  · have := h1.lg.lt k (h5 k hk).1
    exact (ch.gF k hf).elim (h5 k hk).2.1 fun e => by omega
  · have := h1.lg.lt k (h5 k hk).1
    exact (ch.gG k hg).elim (h5 k hk).2.2 fun e => by omega
theorem Lx.disk {e : TypeId} {n c : Nat} {xs : List Value} {k : FuncId} {args : Array Value} {u : Value} (T : Lx w0 w l g p D L A) (hA : Ow w e 1 A n c xs)
    (h : ∀ F, Dk w g D F → Cal Try.prog k args w fun v w' => v = u ∧ ∃ F', Dk w' g D' F' ∧ Gr F F' w w' ∧ Kp F w w') : Cal Try.prog k args w fun v w' => v = u ∧ Lx w0 w' l g p D' L A ∧ Ow w' e 1 A n c xs := by
  obtain ⟨F, G, V, h1, h2, h3, h4, h5⟩ := T
  refine (h F h1.dk).mono ?_
  rintro v w' ⟨hv, F', hD, hG, hK⟩
  obtain ⟨h1', gV⟩ := h1.disk hD hG hK
  refine ⟨hv, ⟨F', G, _, h1', h2, fun k hk => (gV k hk).elim (h3 k) fun e => Nat.le_trans h4.size e.1, h4.at_ hK fun k hk => h3 k (h1.fv k hk), fun k hk => ⟨.inl (h5 k hk).1, fun hf => ?_, (h5 k hk).2.2⟩⟩, hA.kp hK (Off.of_blk fun i hi e => (h5 i hi).2.1 e)⟩
  have := h1.lg.lt k (h5 k hk).1
  exact (hG k hf).elim (h5 k hk).2.1 fun e => by omega
end
/-- The log's ends behind each entry. -/
def logB (ps : List (List UInt8)) : List UInt8 := recsB (entsP 1 ps)
def endsL (ps : List (List UInt8)) (n : Nat) : List Int := (List.range n).map fun j => ((logB (ps.take (j + 1))).length : Int)
theorem endsL_succ (ps : List (List UInt8)) (n : Nat) : endsL ps (n + 1) = endsL ps n ++ [((logB (ps.take (n + 1))).length : Int)] := by
  unfold endsL
  rw [List.range_succ, List.map_append]
  rfl
theorem endsL_len (ps : List (List UInt8)) (n : Nat) : (endsL ps n).length = n := by simp [endsL]
theorem endsL_get (ps : List (List UInt8)) (n j : Nat) (h : j < n) : ((endsL ps n).map i64)[j]? = some (i64 (logB (ps.take (j + 1))).length) := by simp [endsL, h]
theorem mem_flat {ps : List (List UInt8)} {b : List UInt8} (h : b ∈ ps) : b.length ≤ ps.flatten.length := by
  obtain ⟨i, hi, rfl⟩ := List.getElem_of_mem h
  have h1 := flat_take ps (i + 1)
  have h2 := congrArg List.length (flat_at ps i hi)
  rw [List.length_append] at h2
  omega
theorem logB_take {ps : List (List UInt8)} {i : Nat} (h : i < ps.length) : logB (ps.take (i + 1)) = logB (ps.take i) ++ entB (i + 1) ps[i] := by
  unfold logB
  rw [List.take_succ_eq_append_getElem h, ents_push, List.length_take, Nat.min_eq_left (by omega), Nat.add_comm 1]
/-- The log after some entries, and nothing beside it. -/
structure Log0 (D : Dsk) (ps : List (List UInt8)) (u m : Nat) : Prop where
  free : Free D u m
  room : D.room = 65536
  file : (fileD D (logN [97])).b = logB ps
  look : ps ≠ [] → ∃ l, tLook D.fs (logN [97]) = some ⟨logB ps, l⟩
  else_ : ∀ t, t ≠ logN [97] → tLook D.fs t = none
theorem Log0.push {D : Dsk} {ps : List (List UInt8)} {u m : Nat} (h : Log0 D ps u m) (b : List UInt8) (hb : b.length ≤ 65536) (hu : u + b.length + 30 ≤ 65536) (hm : m < 4096) (h40 : ps.length < 1099511627776) :
    ∃ D', lApp D [97] ⟨0, [], ps, false⟩ b = (D', ⟨0, [], ps ++ [b], false⟩, ps.length + 1, 0) ∧ Log0 D' (ps ++ [b]) (u + b.length + 30) (m + 1) ∧ tLook D'.fs (logN [97]) = some ⟨logB (ps ++ [b]), (logB (ps ++ [b])).length⟩ := by
  have hll : (⟨0, [], ps, false⟩ : Led).last = ps.length := by simp [Led.last]
  obtain ⟨D', e, f, r, x, o⟩ := lApp_out (p := [97]) (L := ⟨0, [], ps, false⟩) (b := b) h.free (by simp) rfl (by rw [hll]; exact h40) hb (by rw [h.room]; exact hu) hm
  rw [hll] at e x
  have hf : (fileD D (logN [97])).b ++ entB (ps.length + 1) b = logB (ps ++ [b]) := by
    rw [h.file]
    unfold logB
    rw [ents_push, Nat.add_comm 1]
  rw [hf] at x
  exact ⟨D', e, ⟨f, r.trans h.room, by unfold fileD; rw [x]; rfl, fun _ => ⟨_, x⟩, fun t ht => by rw [o t ht, h.else_ t ht]⟩, x⟩
theorem Log0.read {D : Dsk} {ps : List (List UInt8)} {u m : Nat} (h : Log0 D ps u m) (hp : ps ≠ []) : dRead D (logN [97]) = (logB ps, 0) := by
  obtain ⟨l, hl⟩ := h.look hp
  unfold dRead
  rw [hl]
theorem logs_ne : shadow (imgN [97]) ≠ logN [97] := (log_sh _).symm
theorem logi_ne : imgN [97] ≠ logN [97] := img_log _
/-- A log whole or cut, opened. -/
theorem opn_cut {D : Dsk} {ps : List (List UInt8)} {u m k n l : Nat} (h : Free D u m) (hx : tLook D.fs (logN [97]) = some ⟨(logB ps).take k, l⟩) (he : ∀ t, t ≠ logN [97] → tLook D.fs t = none) (hk : k ≤ (logB ps).length) (hn : n ≤ ps.length) (h1 : (logB (ps.take n)).length ≤ k) (h2 : n = ps.length ∨ k < (logB (ps.take (n + 1))).length) (hpl : ps.length ≤ 1000) (hb : ∀ b ∈ ps, b.length ≤ 65536) :
    ∃ D', opn D [97] = (D', 0, ⟨0, [], ps.take n, false⟩) ∧ Free D' u m ∧ D'.room = D.room ∧ (fileD D' (logN [97])).b = logB (ps.take n) ∧ (ps.take n ≠ [] → ∃ l, tLook D'.fs (logN [97]) = some ⟨logB (ps.take n), l⟩) ∧ ∀ t, t ≠ logN [97] → tLook D'.fs t = none := by
  have hkl : ((logB ps).take k).length = k := by rw [List.length_take]; omega
  have hsc := scan_cut (entsP 1 ps) (entsP_mem hb (by omega) (by omega)) n k (k + 1) (by rw [entsP_len]; exact hn) (by rw [entsP_take]; exact h1) (by rw [entsP_len, entsP_take]; exact h2) hk (by omega)
  rw [entsP_take] at hsc
  have hcut : ((logB ps).take k).take (recsB (entsP 1 (ps.take n))).length = logB (ps.take n) := by
    have e : logB ps = logB (ps.take n) ++ recsB (entsP (1 + n) (ps.drop n)) := by
      have := entsP_app 1 (ps.take n) (ps.drop n)
      rw [List.take_append_drop, List.length_take, Nat.min_eq_left hn] at this
      unfold logB
      rw [this]
      unfold recsB
      rw [List.flatMap_append]
    have h1' : (recsB (entsP 1 (ps.take n))).length ≤ k := h1
    rw [List.take_take, Nat.min_eq_left h1', e]
    exact List.take_left' rfl
  obtain ⟨D', e, f, r, x, z, o⟩ := opn_log (x := ⟨(logB ps).take k, l⟩) (qs := ps.take n) (good := (recsB (entsP 1 (ps.take n))).length) h (by simp) hx (he _ logs_ne) (he _ logi_ne) (by simp only [hkl]; exact hsc) (by rw [List.length_take]; omega) (fun b hb' => by have := hb b (List.mem_of_mem_take hb'); omega)
  simp only [hcut] at x
  refine ⟨D', e, f, r, ?_, x, fun t ht => by rw [o t ht, he t ht]⟩
  by_cases hq : ps.take n = []
  · unfold fileD
    rw [z hq, hq]
    rfl
  · obtain ⟨l', hl'⟩ := x hq
    unfold fileD
    rw [hl']
    rfl
/-- A log cut at any byte, opened. -/
theorem Log0.torn {D : Dsk} {ps : List (List UInt8)} {u m : Nat} (h : Log0 D ps u m) (hp : ps ≠ []) (k : Nat) (hk : k ≤ (logB ps).length) :
    ∃ D1, dTrunc D (logN [97]) k = (D1, 0) ∧ ∀ n, n ≤ ps.length → (logB (ps.take n)).length ≤ k → (n = ps.length ∨ k < (logB (ps.take (n + 1))).length) → ps.length ≤ 1000 → (∀ b ∈ ps, b.length ≤ 65536) → ∃ D2, opn D1 [97] = (D2, 0, ⟨0, [], ps.take n, false⟩) ∧ Log0 D2 (ps.take n) u m := by
  obtain ⟨l, hl⟩ := h.look hp
  have e1 := trunc_free k h.free.left (logN_bad (p := [97]) (by simp)) hl hk
  refine ⟨_, e1, fun n hn h1 h2 hpl hb => ?_⟩
  have f1 := h.free.relay hl ((logB ps).take k) (min l k) (by rw [List.length_take]; omega) (by simp only [List.length_take]; omega)
  obtain ⟨D2, e2, f2, r2, x2, l2, o2⟩ := opn_cut (ps := ps) (k := k) (n := n) (l := min l k) f1 (by simp only [tLook_lay, if_pos]) (fun t ht => by simp only [tLook_lay, if_neg ht]; exact h.else_ t ht) hk hn h1 h2 hpl hb
  exact ⟨D2, e2, f2, r2.trans h.room, x2, l2, o2⟩
/-- A log whose bytes all last, behind a crash. -/
theorem opn_back {D : Dsk} {ps : List (List UInt8)} (ok : (dCrash D 0).Ok) (hx : tLook D.fs (logN [97]) = some ⟨logB ps, (logB ps).length⟩) (he : ∀ t, t ≠ logN [97] → tLook D.fs t = none) (hpl : ps.length ≤ 1000) (hb : ∀ b ∈ ps, b.length ≤ 65536) : ∃ D', opn (dCrash D 0) [97] = (D', 0, ⟨0, [], ps, false⟩) := by
  have hx' := crash0_look hx
  have ht : (logB ps).take (logB ps).length = logB ps := List.take_length
  obtain ⟨D', e, _⟩ := opn_cut (ps := ps) (k := (logB ps).length) (n := ps.length) (l := (logB ps).length) (D := dCrash D 0) ⟨ok, rfl, Nat.le_refl _, Nat.le_refl _⟩ (by rw [ht]; exact hx') (fun t ht => by unfold dCrash; simp only [tLook_mapv, he t ht, Option.map_none]) (Nat.le_refl _) (Nat.le_refl _) (by rw [List.take_length]; exact Nat.le_refl _) (.inl rfl) hpl hb
  rw [List.take_length] at e
  exact ⟨D', e⟩
theorem Dw.ok {w0 w : World} {g : Nat} {D : Dsk} (T : Dw w0 w g D) : D.Ok := by
  obtain ⟨F, h1, h2, h3⟩ := T
  exact h1.ok
/-- An append of a row of the program's own. -/
theorem ltorn_law (ps : List (List UInt8)) (cut : Int) (A : Option Addr) (c : Nat) (w : World) (hr : Brs w A ps fun _ => False) (hc : ps.length ≤ c) (hm : ∀ p ∈ ps, p.length ≤ 140737488355328) :
    Cal Try.prog 8 #[.slice A ps.length c, i64 cut] w fun v w' => v = .bool true ∧ Nw w w' := by
  refine enter Try.mixed Try.func8 rfl (by kernel_rfl) ?_
  by_cases h1 : ps.length < 1
  · have h1' : (ps.length : Int) < 1 := by omega
    simp -dsimp [go_sem, h1, h1']
    exact Kp.refl _ _
  have h1' : ¬ (ps.length : Int) < 1 := by omega
  by_cases h20 : 20 < ps.length
  · have h20' : (20 : Int) < (ps.length : Int) := by omega
    simp -dsimp [go_sem, h1, h1', h20, h20']
    exact Kp.refl _ _
  have h20' : ¬ (20 : Int) < (ps.length : Int) := by omega
  simp -dsimp [go_sem, h1, h1', h20, h20']
  refine loop [4, 5, 6, 33, 34, 35, 36, 37, 38, 39, 40, 41, 42, 43, 44, 45, 46, 47, 48, 49, 50, 51] (by kernel_rfl)
    (fun f w' => Box2 (fun a b w' => ∃ (i n : Nat), i ≤ ps.length ∧ b = i64 i ∧ a = i64 n ∧ n = (ps.take i).flatten.length ∧ n ≤ 2000 * i ∧ w' = w) (f 5) (f 6) w') (fun f _ => ps.length - (intOf (f 6)).toNat) ⟨0, 0, Nat.zero_le _, rfl, rfl, rfl, by simp, rfl⟩ ?_
  rintro f w' ⟨i, n, hi, f6, f5, hn, hn2, rfl⟩
  by_cases hlt : i < ps.length
  · obtain ⟨vs, hvl, hrd, hoA, hi'⟩ := id hr
    obtain ⟨X, x, hv, hrX, hoX, hx⟩ := hi' i hlt
    obtain ⟨bb, oo, rfl, hcell0⟩ := hrd i _ hv
    have hat := congrArg List.length (flat_at ps i hlt)
    rw [List.length_append] at hat
    obtain ⟨pl, hpl'⟩ : ∃ pl, pl = ps[i].length := ⟨_, rfl⟩
    rw [← hpl'] at hcell0 hat
    have hk1 : IntKind.i64.wrap ((i : Int) + 1) = ((i + 1 : Nat) : Int) := w64 (by omega) (by omega)
    obtain ⟨k1, hk1'⟩ : ∃ k1, k1 = i + 1 := ⟨_, rfl⟩
    rw [← hk1'] at hk1 hat
    by_cases hbig : 2000 < pl
    · have hbig' : (2000 : Int) < (pl : Int) := by omega
      simp -dsimp [go_sem, f5, f6, hlt, hcell0, hbig, hbig']
      exact Kp.refl _ _
    · have hbig' : ¬ (2000 : Int) < (pl : Int) := by omega
      have h2 : IntKind.i64.wrap ((n : Int) + (pl : Int)) = ((n + pl : Nat) : Int) := w64 (by omega) (by omega)
      obtain ⟨n2, hn2'⟩ : ∃ n2, n2 = n + pl := ⟨_, rfl⟩
      rw [← hn2'] at h2
      simp -dsimp [go_sem, f5, f6, hlt, hcell0, hbig, hbig', h2, hk1]
      exact ⟨⟨k1, n2, by omega, rfl, rfl, by omega, by omega, rfl⟩, by simp [intOf]; omega⟩
  obtain rfl : i = ps.length := by omega
  rw [List.take_length] at hn
  by_cases hbig : 2000 < n
  · have hbig' : (2000 : Int) < (n : Int) := by omega
    simp -dsimp [go_sem, f5, f6, hbig, hbig']
    exact Kp.refl _ _
  have hbig' : ¬ (2000 : Int) < (n : Int) := by omega
  have hbl : ∀ b ∈ ps, b.length ≤ 65536 := fun b hb => by
    have h1 := mem_flat hb
    omega
  have hft := flat_take ps
  have hfl : ps.flatten.length ≤ 2000 := by omega
  simp -dsimp [go_sem, f5, f6, hbig, hbig']
  refine call (new_spec 65536 w') ?_
  rintro v w1 (⟨h, _⟩ | ⟨_, _, g, F, rfl, hD, nF, hk1⟩)
  · omega
  obtain ⟨D0, hD0⟩ : ∃ D0, D0 = (⟨Int.toNat 65536, [], none⟩ : Dsk) := ⟨_, rfl⟩
  rw [← hD0] at hD
  have eo : opn D0 [97] = (D0, 0, Led.zero) := opn_none (by rw [hD0]; rfl) (by rw [hD0]; rfl) (by rw [hD0]; rfl)
  simp -dsimp [go_sem]
  refine call (open_spec g [97] D0 F w1 hD (by simp) (by simp)) ?_
  rw [eo]
  rintro v w2 hO
  obtain ⟨l, rfl, T2⟩ := Lw.of_open hO rfl (fun k hk => nF k hk) hk1
  simp only at T2
  have z0 : Log0 D0 [] 0 0 := ⟨⟨T2.ok, by rw [hD0], by rw [hD0]; simp [Dsk.used, sumv], by rw [hD0]; simp⟩, by rw [hD0]; rfl, by rw [hD0]; rfl, fun h => absurd rfl h, fun t _ => by rw [hD0]; rfl⟩
  simp -dsimp [go_sem]
  refine loop [11, 12, 13, 14, 69, 70, 71, 72, 73, 74, 75, 76, 77, 78, 79, 80, 81, 82, 83, 84, 85, 86, 87, 88, 89, 90] (by kernel_rfl)
    (fun f w3 => Box2 (fun a b w3 => ∃ (i n : Nat) (D : Dsk) (E : Option Addr) (ec : Nat), i ≤ ps.length ∧ n = i ∧ b = i64 i ∧ a = .slice E n ec ∧ Ow w3 3 1 E n ec ((endsL ps i).map i64) ∧ Lx w' w3 l g [97] D ⟨0, [], ps.take i, false⟩ E ∧ Log0 D (ps.take i) ((ps.take i).flatten.length + 30 * i) i) (f 11) (f 12) w3) (fun f _ => ps.length - (intOf (f 12)).toNat)
    ⟨0, 0, D0, none, 0, Nat.zero_le _, rfl, rfl, rfl, Ow.nil _ _ _, T2.lx, z0⟩ ?_
  rintro f w3 ⟨i, n, D, E, ec, hi, hn, f12, f11, hE, T3, z3⟩
  by_cases hlt : i < ps.length
  · obtain ⟨vs, hvl, hrd, hoA, hi'⟩ := id hr
    obtain ⟨X, x, hv, hrX, hoX, hx⟩ := hi' i hlt
    obtain ⟨bb, oo, rfl, hcell0⟩ := hrd i _ hv
    obtain ⟨Dp, hz, z4, _⟩ := z3.push ps[i] (hbl _ (List.getElem_mem hlt)) (by have := flat_take ps (i + 1); have := congrArg List.length (flat_at ps i hlt); rw [List.length_append] at this; omega) (by omega) (by rw [List.length_take]; omega)
    have hne : ps.take i ++ [ps[i]] ≠ [] := fun e => by have := congrArg List.length e; rw [List.length_append] at this; simp only [List.length_singleton, List.length_nil] at this; omega
    have hrd4 := z4.read hne
    rw [← List.take_succ_eq_append_getElem hlt] at hz z4 hrd4
    have hu4 : (ps.take i).flatten.length + 30 * i + ps[i].length + 30 = (ps.take (i + 1)).flatten.length + 30 * (i + 1) := by
      have := congrArg List.length (flat_at ps i hlt)
      rw [List.length_append] at this
      omega
    rw [hu4] at z4
    have hen := endsL_succ ps i
    have hap := T3.append hE (by simp) ps[i] X x hrX hx (hm _ (List.getElem_mem hlt))
    rw [hz] at hap
    simp only at hap
    have hcell := T3.lw.on.cell_some hcell0 fun h => h
    obtain ⟨pl, hpl'⟩ : ∃ pl, pl = ps[i].length := ⟨_, rfl⟩
    rw [← hpl'] at hcell hap
    have hk1 : IntKind.i64.wrap ((i : Int) + 1) = ((i + 1 : Nat) : Int) := w64 (by omega) (by omega)
    obtain ⟨k1, hk1'⟩ : ∃ k1, k1 = i + 1 := ⟨_, rfl⟩
    rw [← hk1'] at hk1 hz z4 hrd4 hen hap
    simp -dsimp [go_sem, f12, hlt, hcell]
    refine call hap ?_
    rintro v w4 ⟨rfl, T4, hE4⟩
    obtain ⟨F4, G4, V4, h4, _⟩ := id T4
    simp -dsimp [go_sem]
    refine call (dread_spec [97, 45, 108, 111, 103] g Dp F4 w4 h4.dk) ?_
    have hrd4' : dRead Dp [97, 45, 108, 111, 103] = (logB (ps.take k1), 0) := hrd4
    rw [hrd4']
    rintro v w5 ⟨hk5, u, rfl, hB5⟩
    obtain ⟨A5, c5, rfl, ho5, hA5⟩ := id hB5
    obtain ⟨L5, hL5⟩ : ∃ L5, L5 = (logB (ps.take k1)).length := ⟨_, rfl⟩
    simp only at ho5 ⊢
    rw [← hL5] at ho5 hen ⊢
    simp -dsimp [go_sem, f11]
    have kb : Nw w5 (w5.alloc (.cells #[i64 L5] 3)) := (Kp.refl _ _).alloc _
    refine app Try.Sint ((hE4.nw hk5).nw kb) (ys := [i64 L5]) (Rd.fresh rfl rfl) (m := 1) rfl (by simp; rfl) (by omega) (by omega) ?_
    intro E6 ec6 w6 hE6 hk6 hAA6
    have T6 := ((T4.nw hk5).nw kb).push hk6 hAA6
    have hen' : (endsL ps i).map i64 ++ [i64 L5] = (endsL ps k1).map i64 := by rw [hen, List.map_append]; rfl
    rw [hen'] at hE6
    simp -dsimp [go_sem, f12, hk1]
    exact ⟨⟨k1, n + 1, Dp, E6, ec6, by omega, by omega, rfl, rfl, hE6, T6, hk1' ▸ z4⟩, by simp [intOf]; omega⟩
  obtain rfl : i = ps.length := by omega
  have hpne : ps ≠ [] := fun e => by rw [e] at h1; simp at h1
  rw [List.take_length] at T3 z3
  obtain ⟨LL, hLL⟩ : ∃ LL, LL = (logB ps).length := ⟨_, rfl⟩
  have hand := i64_and30 cut
  have hLb : LL ≤ 1073741824 := by
    have := dRead_len z3.free.ok (logN [97])
    rw [z3.read hpne] at this
    rw [hLL]
    exact this
  have hL1 : IntKind.i64.wrap ((LL : Int) + 1) = ((LL + 1 : Nat) : Int) := w64 (by omega) (by omega)
  have hrem : (cut % 1073741824).tmod ((LL + 1 : Nat) : Int) = (((cut % 1073741824).toNat % (LL + 1) : Nat) : Int) := by
    have e : cut % 1073741824 = ((cut % 1073741824).toNat : Int) := by omega
    rw [Int.tmod_eq_emod_of_nonneg (by omega)]
    generalize (cut % 1073741824).toNat = n at e ⊢
    rw [e]
    rfl
  have hkl : (cut % 1073741824).toNat % (LL + 1) < LL + 1 := Nat.mod_lt _ (by omega)
  obtain ⟨k, hk⟩ : ∃ k, k = (cut % 1073741824).toNat % (LL + 1) := ⟨_, rfl⟩
  rw [← hk] at hrem hkl
  obtain ⟨L1, hL1'⟩ : ∃ L1, L1 = LL + 1 := ⟨_, rfl⟩
  rw [← hL1'] at hL1 hrem
  have hL1n : ¬ L1 = 0 := by omega
  obtain ⟨n1, hn1⟩ : ∃ n1, n1 = n - 1 := ⟨_, rfl⟩
  have hw1 : IntKind.i64.wrap ((n : Int) - 1) = (n1 : Int) := by rw [w64 (by omega) (by omega)]; omega
  have hlt1 : n1 < n := by omega
  have hel := endsL_len ps ps.length
  obtain ⟨eb, eo', rfl, hce⟩ := hE.rd n1 _ (endsL_get ps ps.length n1 (by omega))
  rw [show n1 + 1 = ps.length by omega, List.take_length, ← hLL] at hce
  have hmn : (ps.length : Int) = (n : Int) := by omega
  obtain ⟨D1, et, htorn⟩ := z3.torn hpne k (by omega)
  have et' : dTrunc D [97, 45, 108, 111, 103] k = (D1, 0) := et
  simp -dsimp [go_sem, f12, f11, hlt1, hce, hw1, hand, hL1, hrem, hL1n]
  have htr := T3.disk hE fun F h => dtrunc_spec [97, 45, 108, 111, 103] k g D F w3 h (by simp)
  rw [et'] at htr
  refine call htr ?_
  rintro v w4 ⟨rfl, T4, hE4⟩
  simp only at T4
  simp -dsimp [go_sem]
  refine loop [16, 104, 105, 106, 107, 108, 109, 110, 111, 112, 113, 114, 115, 116, 117] (by kernel_rfl)
    (fun f w' => Box1 (fun a w' => ∃ m : Nat, m ≤ ps.length ∧ a = i64 m ∧ (logB (ps.take m)).length ≤ k ∧ w' = w4) (f 16) w') (fun f _ => ps.length - (intOf (f 16)).toNat) ⟨0, Nat.zero_le _, rfl, by simp [logB, entsP, recsB], rfl⟩ ?_
  rintro f w4' ⟨m, hm1, f16, hmk, rfl⟩
  by_cases hml : m < ps.length
  · obtain ⟨b2, o2, ee, hcm⟩ := hE4.rd m _ (endsL_get ps ps.length m hml)
    cases ee
    obtain ⟨lm, hlm⟩ : ∃ lm, lm = (logB (ps.take (m + 1))).length := ⟨_, rfl⟩
    rw [← hlm] at hcm
    have hmn' : m < n := by omega
    have hmn2 : (m : Int) < (n : Int) := by omega
    by_cases hle : lm ≤ k
    · have hle' : (lm : Int) ≤ (k : Int) := by omega
      have hk1 : IntKind.i64.wrap ((m : Int) + 1) = ((m + 1 : Nat) : Int) := w64 (by omega) (by omega)
      obtain ⟨k1, hk1'⟩ : ∃ k1, k1 = m + 1 := ⟨_, rfl⟩
      rw [← hk1'] at hk1 hlm
      simp -dsimp [go_sem, f16, f11, hmn', hmn2, hcm, hle, hle', hk1]
      exact ⟨⟨k1, by omega, rfl, by omega, rfl⟩, by simp [intOf]; omega⟩
    · have hle' : ¬ (lm : Int) ≤ (k : Int) := by omega
      obtain ⟨D2, eo2, z5⟩ := htorn m hm1 hmk (.inr (by omega)) (by omega) hbl
      simp -dsimp [go_sem, f16, f11, hmn', hmn2, hcm, hle, hle']
      obtain ⟨F4, hD4, hF4, hn4⟩ := T4.lw.dw
      refine call (open_spec g [97] D1 F4 w4' hD4 (by simp) (by simp)) ?_
      rw [eo2]
      rintro v w5 hO5
      obtain ⟨l5, rfl, T5⟩ := Lw.of_open hO5 rfl hF4 hn4
      simp only at T5
      have hl5 : (⟨0, [], ps.take m, false⟩ : Led).last = m := by simp [Led.last]; omega
      simp -dsimp [go_sem]
      refine call T5.last ?_
      rw [hl5]
      rintro v w6 ⟨rfl, hk6⟩
      have T6 := T5.nw hk6
      simp -dsimp [go_sem, f16]
      refine loop [4, 18, 19, 20, 135, 136, 137, 138, 139, 140, 141, 142, 143, 144, 145, 146, 147, 148, 149, 150, 151, 152, 153, 154, 155, 156, 157, 158] (by kernel_rfl)
        (fun f w' => Box1 (fun a w' => ∃ j : Nat, j ≤ m ∧ a = i64 (j + 1 : Nat) ∧ Nw w6 w') (f 18) w') (fun f _ => m + 1 - (intOf (f 18)).toNat) ⟨0, Nat.zero_le _, rfl, Kp.refl _ _⟩ ?_
      rintro f w7 ⟨j, hj, f18, hk7⟩
      have T7 := T6.nw hk7
      obtain ⟨j1, hj1⟩ : ∃ j1, j1 = j + 1 := ⟨_, rfl⟩
      rw [← hj1] at f18
      by_cases hjm : j < m
      · have hjm' : (j1 : Int) ≤ (m : Int) := by omega
        have hjm2 : j1 ≤ m := by omega
        have hjp : j < ps.length := by omega
        obtain ⟨vs, hvl, hrd, hoA, hi'⟩ := id hr
        obtain ⟨X, x, hv, hrX, hoX, hx⟩ := hi' j hjp
        obtain ⟨bb, oo, rfl, hcell0⟩ := hrd j _ hv
        have hla : lAt ⟨0, [], ps.take m, false⟩ (j1 : Int) = (ps[j], 0) := by
          unfold lAt
          rw [hl5, if_neg (by simp only; omega)]
          have e1 : ((j1 : Int) - ((0 : Nat) : Int) - 1).toNat = j := by omega
          simp only [e1]
          simp [List.getD, hjm, hjp]
        simp -dsimp [go_sem, f18, f16, hjm', hjm2]
        refine call (T7.at_ (j1 : Int) (by omega)) ?_
        rw [hla]
        rintro v w8 ⟨hk8, u, rfl, hB8⟩
        obtain ⟨A8, c8, rfl, ho8, hA8⟩ := id hB8
        have T8 := T7.nw hk8
        have n8 := T8.on
        simp only at ho8 ⊢
        have hcell := n8.cell_some hcell0 fun h => h
        generalize ps[j] = pj at *
        obtain ⟨pl, hpl⟩ : ∃ pl, pl = pj.length := ⟨_, rfl⟩
        rw [← hpl] at ho8 hcell ⊢
        have hrX8 := hrX.nw n8
        have kd : Nw w8 w8.drew := (Kp.refl _ _).drew
        have hcm : ∀ W, Nw w8 W → (convert 32 9 (.slice A8 pl c8)).run Try.prog W = .ok (.string ⟨pj.toArray⟩) W := fun W hW => by rw [hpl]; exact conv_str (e := 5) (by kernel_rfl) (by kernel_rfl) (by kernel_rfl) (ho8.nw hW).rd
        have hck : ∀ W, Nw w8 W → (convert 32 9 (.slice X pl x)).run Try.prog W = .ok (.string ⟨pj.toArray⟩) W := fun W hW => by rw [hpl]; exact conv_str (e := 5) (by kernel_rfl) (by kernel_rfl) (by kernel_rfl) (hrX8.nw hW)
        have hcmd := hcm _ kd
        have hckd := hck _ kd
        have hcelld := kd.cell_some hcell fun h => h
        have hw : IntKind.i64.wrap ((j1 : Int) - 1) = (j : Int) := by rw [w64 (by omega) (by omega)]; omega
        simp -dsimp [go_sem]
        refine draw (.take 0 (.take 1 (.take 2 (.take 3 (.take 4 (.take 5 (.take 6 (.take 7 (.take 8 (.take 9 (.take 10 (.take 11 (.take 12 .done))))))))))))) (by kernel_rfl) (fun wz => Nw w8 wz) kd ?_
        simp -dsimp [go_sem, f18, hjp, hw, hcelld, hcmd, hckd]
        repeat refine ⟨fun wz hz => by first | exact hcm wz hz | exact hck wz hz | simp [hz.cell_some hcell fun h => h], ?_⟩
        have hk1 : IntKind.i64.wrap ((j1 : Int) + 1) = ((j1 + 1 : Nat) : Int) := w64 (by omega) (by omega)
        obtain ⟨k1, hk1'⟩ : ∃ k1, k1 = j1 + 1 := ⟨_, rfl⟩
        rw [← hk1'] at hk1
        simp -dsimp [go_sem, f18, hk1]
        exact ⟨⟨j1, by omega, by rw [hk1'], hk7.nw (hk8.nw kd)⟩, by simp [intOf]; omega⟩
      have hjm' : ¬ (j1 : Int) ≤ (m : Int) := by omega
      have hjm2 : ¬ j1 ≤ m := by omega
      obtain ⟨D3, e3, z7, x7⟩ := z5.push [110, 101, 120, 116] (by simp) (by simp only [List.length_cons, List.length_nil]; omega) (by omega) (by rw [List.length_take]; omega)
      have hltk : (ps.take m).length = m := by rw [List.length_take]; omega
      obtain ⟨m1, hm1e⟩ : ∃ m1, m1 = m + 1 := ⟨_, rfl⟩
      rw [hltk, ← hm1e] at e3
      simp -dsimp [go_sem, f18, f16, hjm', hjm2]
      refine conv_const rfl rfl (Blk.new w7 _ _) ?_
      intro wc hkc hhc
      have kc : Nw w7 wc := Nw.at_ ((Kp.refl _ _).alloc _) hkc (Nf.at_ (Nat.le_refl _))
      simp -dsimp [go_sem]
      have hap := T7.append (by simp) kc [110, 101, 120, 116] _ 4 (Rd.of_heap hhc) (.inr own_off) (by simp) (by simp)
      rw [e3] at hap
      simp only at hap
      refine call hap ?_
      rintro v w8 ⟨rfl, T8⟩
      simp -dsimp [go_sem]
      refine call (T8.dw.crash 0) ?_
      rintro v w9 ⟨rfl, T9⟩
      obtain ⟨D4, e4⟩ := opn_back T9.ok x7 z7.else_ (by simp only [List.length_append, List.length_singleton]; omega) (fun b hb => by
        rcases List.mem_append.1 hb with hb | hb
        · exact hbl b (List.mem_of_mem_take hb)
        · rw [List.mem_singleton.1 hb]; simp)
      obtain ⟨F9, hD9, hF9, hn9⟩ := T9
      simp -dsimp [go_sem]
      refine call (open_spec g [97] (dCrash D3 0) F9 w9 hD9 (by simp) (by simp)) ?_
      rw [e4]
      rintro v wa hOa
      obtain ⟨la, rfl, Ta⟩ := Lw.of_open hOa rfl hF9 hn9
      simp only at Ta
      have hla : (⟨0, [], ps.take m ++ [[110, 101, 120, 116]], false⟩ : Led).last = m + 1 := by simp [Led.last]; omega
      have hm1' : IntKind.i64.wrap ((m : Int) + 1) = ((m + 1 : Nat) : Int) := w64 (by omega) (by omega)
      rw [← hm1e] at hm1' hla
      simp -dsimp [go_sem, f16, hm1']
      refine call Ta.last ?_
      rw [hla]
      rintro v wb ⟨rfl, hkb⟩
      simp -dsimp [go_sem, f16, hm1']
      refine call (lgknown_spec wb) ?_
      rintro v wc2 ⟨rfl, hkc2⟩
      simp -dsimp [go_sem]
      exact (Ta.on.nw hkb).nw hkc2
  · have hmN : m = ps.length := by omega
    have hmn' : ¬ m < n := by omega
    have hmn2 : ¬ (m : Int) < (n : Int) := by omega
    obtain ⟨D2, eo2, z5⟩ := htorn m hm1 hmk (.inl hmN) (by omega) hbl
    simp -dsimp [go_sem, f16, f11, hmn', hmn2]
    obtain ⟨F4, hD4, hF4, hn4⟩ := T4.lw.dw
    refine call (open_spec g [97] D1 F4 w4' hD4 (by simp) (by simp)) ?_
    rw [eo2]
    rintro v w5 hO5
    obtain ⟨l5, rfl, T5⟩ := Lw.of_open hO5 rfl hF4 hn4
    simp only at T5
    have hl5 : (⟨0, [], ps.take m, false⟩ : Led).last = m := by simp [Led.last]; omega
    simp -dsimp [go_sem]
    refine call T5.last ?_
    rw [hl5]
    rintro v w6 ⟨rfl, hk6⟩
    have T6 := T5.nw hk6
    simp -dsimp [go_sem, f16]
    refine loop [4, 18, 19, 20, 135, 136, 137, 138, 139, 140, 141, 142, 143, 144, 145, 146, 147, 148, 149, 150, 151, 152, 153, 154, 155, 156, 157, 158] (by kernel_rfl)
      (fun f w' => Box1 (fun a w' => ∃ j : Nat, j ≤ m ∧ a = i64 (j + 1 : Nat) ∧ Nw w6 w') (f 18) w') (fun f _ => m + 1 - (intOf (f 18)).toNat) ⟨0, Nat.zero_le _, rfl, Kp.refl _ _⟩ ?_
    rintro f w7 ⟨j, hj, f18, hk7⟩
    have T7 := T6.nw hk7
    obtain ⟨j1, hj1⟩ : ∃ j1, j1 = j + 1 := ⟨_, rfl⟩
    rw [← hj1] at f18
    by_cases hjm : j < m
    · have hjm' : (j1 : Int) ≤ (m : Int) := by omega
      have hjm2 : j1 ≤ m := by omega
      have hjp : j < ps.length := by omega
      obtain ⟨vs, hvl, hrd, hoA, hi'⟩ := id hr
      obtain ⟨X, x, hv, hrX, hoX, hx⟩ := hi' j hjp
      obtain ⟨bb, oo, rfl, hcell0⟩ := hrd j _ hv
      have hla : lAt ⟨0, [], ps.take m, false⟩ (j1 : Int) = (ps[j], 0) := by
        unfold lAt
        rw [hl5, if_neg (by simp only; omega)]
        have e1 : ((j1 : Int) - ((0 : Nat) : Int) - 1).toNat = j := by omega
        simp only [e1]
        simp [List.getD, hjm, hjp]
      simp -dsimp [go_sem, f18, f16, hjm', hjm2]
      refine call (T7.at_ (j1 : Int) (by omega)) ?_
      rw [hla]
      rintro v w8 ⟨hk8, u, rfl, hB8⟩
      obtain ⟨A8, c8, rfl, ho8, hA8⟩ := id hB8
      have T8 := T7.nw hk8
      have n8 := T8.on
      simp only at ho8 ⊢
      have hcell := n8.cell_some hcell0 fun h => h
      generalize ps[j] = pj at *
      obtain ⟨pl, hpl⟩ : ∃ pl, pl = pj.length := ⟨_, rfl⟩
      rw [← hpl] at ho8 hcell ⊢
      have hrX8 := hrX.nw n8
      have kd : Nw w8 w8.drew := (Kp.refl _ _).drew
      have hcm : ∀ W, Nw w8 W → (convert 32 9 (.slice A8 pl c8)).run Try.prog W = .ok (.string ⟨pj.toArray⟩) W := fun W hW => by rw [hpl]; exact conv_str (e := 5) (by kernel_rfl) (by kernel_rfl) (by kernel_rfl) (ho8.nw hW).rd
      have hck : ∀ W, Nw w8 W → (convert 32 9 (.slice X pl x)).run Try.prog W = .ok (.string ⟨pj.toArray⟩) W := fun W hW => by rw [hpl]; exact conv_str (e := 5) (by kernel_rfl) (by kernel_rfl) (by kernel_rfl) (hrX8.nw hW)
      have hcmd := hcm _ kd
      have hckd := hck _ kd
      have hcelld := kd.cell_some hcell fun h => h
      have hw : IntKind.i64.wrap ((j1 : Int) - 1) = (j : Int) := by rw [w64 (by omega) (by omega)]; omega
      simp -dsimp [go_sem]
      refine draw (.take 0 (.take 1 (.take 2 (.take 3 (.take 4 (.take 5 (.take 6 (.take 7 (.take 8 (.take 9 (.take 10 (.take 11 (.take 12 .done))))))))))))) (by kernel_rfl) (fun wz => Nw w8 wz) kd ?_
      simp -dsimp [go_sem, f18, hjp, hw, hcelld, hcmd, hckd]
      repeat refine ⟨fun wz hz => by first | exact hcm wz hz | exact hck wz hz | simp [hz.cell_some hcell fun h => h], ?_⟩
      have hk1 : IntKind.i64.wrap ((j1 : Int) + 1) = ((j1 + 1 : Nat) : Int) := w64 (by omega) (by omega)
      obtain ⟨k1, hk1'⟩ : ∃ k1, k1 = j1 + 1 := ⟨_, rfl⟩
      rw [← hk1'] at hk1
      simp -dsimp [go_sem, f18, hk1]
      exact ⟨⟨j1, by omega, by rw [hk1'], hk7.nw (hk8.nw kd)⟩, by simp [intOf]; omega⟩
    have hjm' : ¬ (j1 : Int) ≤ (m : Int) := by omega
    have hjm2 : ¬ j1 ≤ m := by omega
    obtain ⟨D3, e3, z7, x7⟩ := z5.push [110, 101, 120, 116] (by simp) (by simp only [List.length_cons, List.length_nil]; omega) (by omega) (by rw [List.length_take]; omega)
    have hltk : (ps.take m).length = m := by rw [List.length_take]; omega
    obtain ⟨m1, hm1e⟩ : ∃ m1, m1 = m + 1 := ⟨_, rfl⟩
    rw [hltk, ← hm1e] at e3
    simp -dsimp [go_sem, f18, f16, hjm', hjm2]
    refine conv_const rfl rfl (Blk.new w7 _ _) ?_
    intro wc hkc hhc
    have kc : Nw w7 wc := Nw.at_ ((Kp.refl _ _).alloc _) hkc (Nf.at_ (Nat.le_refl _))
    simp -dsimp [go_sem]
    have hap := T7.append (by simp) kc [110, 101, 120, 116] _ 4 (Rd.of_heap hhc) (.inr own_off) (by simp) (by simp)
    rw [e3] at hap
    simp only at hap
    refine call hap ?_
    rintro v w8 ⟨rfl, T8⟩
    simp -dsimp [go_sem]
    refine call (T8.dw.crash 0) ?_
    rintro v w9 ⟨rfl, T9⟩
    obtain ⟨D4, e4⟩ := opn_back T9.ok x7 z7.else_ (by simp only [List.length_append, List.length_singleton]; omega) (fun b hb => by
      rcases List.mem_append.1 hb with hb | hb
      · exact hbl b (List.mem_of_mem_take hb)
      · rw [List.mem_singleton.1 hb]; simp)
    obtain ⟨F9, hD9, hF9, hn9⟩ := T9
    simp -dsimp [go_sem]
    refine call (open_spec g [97] (dCrash D3 0) F9 w9 hD9 (by simp) (by simp)) ?_
    rw [e4]
    rintro v wa hOa
    obtain ⟨la, rfl, Ta⟩ := Lw.of_open hOa rfl hF9 hn9
    simp only at Ta
    have hla : (⟨0, [], ps.take m ++ [[110, 101, 120, 116]], false⟩ : Led).last = m + 1 := by simp [Led.last]; omega
    have hm1' : IntKind.i64.wrap ((m : Int) + 1) = ((m + 1 : Nat) : Int) := w64 (by omega) (by omega)
    rw [← hm1e] at hm1' hla
    simp -dsimp [go_sem, f16, hm1']
    refine call Ta.last ?_
    rw [hla]
    rintro v wb ⟨rfl, hkb⟩
    simp -dsimp [go_sem, f16, hm1']
    refine call (lgknown_spec wb) ?_
    rintro v wc2 ⟨rfl, hkc2⟩
    simp -dsimp [go_sem]
    exact (Ta.on.nw hkb).nw hkc2
end Go.Proofs.Ythonmjgagblogaa
