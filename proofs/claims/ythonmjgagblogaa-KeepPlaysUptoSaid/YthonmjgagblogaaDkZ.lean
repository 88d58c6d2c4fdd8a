/-
  DiskPlays: the disk and that of the reference side by side. By the session itself.
-/
import Derived.Test.YthonmjgagblogaaDkY
namespace Go.Proofs.Ythonmjgagblogaa
set_option linter.unusedSimpArgs false
set_option linter.unusedVariables false
set_option maxRecDepth 100000
set_option maxHeartbeats 1000000
open Go.Vc Go.RowKit

/-- New since w0, and not in N. -/
abbrev Ns (w0 : World) (N : Nat → Prop) : Nat → Prop := fun k => w0.heap.size ≤ k ∧ ¬ N k
/-- A disk and one of the reference, each of its own new blocks, none of which lies in N. -/
def Pr (w0 w : World) (N : Nat → Prop) (d : Nat) (D : Dsk) (x : Nat) (E : Dsk) : Prop := ∃ F G, Dk w d D F ∧ RefD w x E G ∧ (∀ i, F i → ¬ G i) ∧ (∀ i, F i → Ns w0 N i) ∧ (∀ i, G i → Ns w0 N i) ∧ Nw w0 w
section
variable {w0 w w1 : World} {N : Nat → Prop} {d x : Nat} {D E D' : Dsk}
theorem Pr.nw (T : Pr w0 w N d D x E) (k : Nw w w1) : Pr w0 w1 N d D x E := by
  obtain ⟨F, G, h1, h2, h3, h4, h5, h6⟩ := T
  exact ⟨F, G, h1.nw k, h2.nw k, h3, h4, h5, h6.nw k⟩
theorem Pr.on (T : Pr w0 w N d D x E) : Nw w0 w := by
  obtain ⟨F, G, h1, h2, h3, h4, h5, h6⟩ := T
  exact h6
theorem Pr.ok (T : Pr w0 w N d D x E) : D.Ok := by
  obtain ⟨F, G, h1, h2, h3, h4, h5, h6⟩ := T
  exact h1.ok
theorem Pr.new (T : Pr w0 w N d D x E) {N' : Nat → Prop} (hN : ∀ i, N' i → N i ∨ w.heap.size ≤ i) : Pr w0 w N' d D x E := by
  obtain ⟨F, G, h1, h2, h3, h4, h5, h6⟩ := T
  exact ⟨F, G, h1, h2, h3, fun i hi => ⟨(h4 i hi).1, fun e => (hN i e).elim (h4 i hi).2 fun h => by have := h1.lt i hi; omega⟩, fun i hi => ⟨(h5 i hi).1, fun e => (hN i e).elim (h5 i hi).2 fun h => by have := h2.lt i hi; omega⟩, h6⟩
theorem Pr.kp {S : Nat → Prop} (T : Pr w0 w N d D x E) (k : Kp S w w1) (hS : ∀ i, S i → w0.heap.size ≤ i ∧ N i) : Pr w0 w1 N d D x E := by
  obtain ⟨F, G, h1, h2, h3, h4, h5, h6⟩ := T
  exact ⟨F, G, h1.kp k fun i hi e => (h4 i hi).2 (hS i e).2, h2.kp k fun i hi e => (h5 i hi).2 (hS i e).2, h3, h4, h5, h6.at_ k fun i hi => (hS i hi).1⟩
theorem Pr.pc {k : FuncId} {args : Array Value} {Q : Value → World → Prop} (T : Pr w0 w N d D x E) (k1 : Nw w w1) (hN : ∀ i, N i → i < w1.heap.size)
    (h : ∀ F, Dk w1 d D F → (∀ i, F i → Ns w0 N i) → (∀ i, F i → i < w.heap.size) → Cal Try.prog k args w1 fun v w' => Q v w' ∧ ∃ F', Dk w' d D' F' ∧ Gr F F' w1 w' ∧ Kp F w1 w') :
    Cal Try.prog k args w1 fun v w' => Q v w' ∧ Pr w0 w' N d D' x E ∧ Kp (Ns w0 N) w1 w' := by
  obtain ⟨F, G, h1, h2, h3, h4, h5, h6⟩ := T
  refine (h F (h1.nw k1) h4 h1.lt).mono ?_
  rintro v w' ⟨hv, F', hD, hG, hK⟩
  have h2' := h2.nw k1
  refine ⟨hv, ⟨F', G, hD, h2'.kp hK (fun i hg hf => h3 i hf hg), Gr.dj hG h3 h2'.lt, fun i hi => ?_, h5, Nw.at_ (h6.nw k1) hK fun i hi => (h4 i hi).1⟩, hK.mono fun i _ hi => h4 i hi⟩
  rcases hG i hi with e | e
  · exact h4 i e
  · exact ⟨by have := (h6.nw k1).size; omega, fun hn => by have := hN i hn; omega⟩
theorem Pr.rc {k : FuncId} {args : Array Value} {Q : Value → World → Prop} (T : Pr w0 w N d E x D) (k1 : Nw w w1) (hN : ∀ i, N i → i < w1.heap.size)
    (h : ∀ F, RefD w1 x D F → (∀ i, F i → Ns w0 N i) → (∀ i, F i → i < w.heap.size) → Cal Try.prog k args w1 fun v w' => Q v w' ∧ ∃ F', RefD w' x D' F' ∧ Gr F F' w1 w' ∧ Kp F w1 w') :
    Cal Try.prog k args w1 fun v w' => Q v w' ∧ Pr w0 w' N d E x D' ∧ Kp (Ns w0 N) w1 w' := by
  obtain ⟨F, G, h1, h2, h3, h4, h5, h6⟩ := T
  refine (h G (h2.nw k1) h5 h2.lt).mono ?_
  rintro v w' ⟨hv, G', hD, hG, hK⟩
  have h1' := h1.nw k1
  refine ⟨hv, ⟨F, G', h1'.kp hK (fun i hf hg => h3 i hf hg), hD, fun i hf hg => Gr.dj hG (fun i hg hf => h3 i hf hg) h1'.lt i hg hf, h4, fun i hi => ?_, Nw.at_ (h6.nw k1) hK fun i hi => (h5 i hi).1⟩, hK.mono fun i _ hi => h5 i hi⟩
  rcases hG i hi with e | e
  · exact h5 i e
  · exact ⟨by have := (h6.nw k1).size; omega, fun hn => by have := hN i hn; omega⟩
/-- What lay there before w0 reads as it did, and is none of the disks'. -/
theorem Pr.off {A : Option Addr} {xs : List Value} {F : Nat → Prop} (hr : Rd w0 A xs) (h : ∀ i, F i → Ns w0 N i) : Ofl A xs F := hr.ofl fun i hi => (h i hi).1
theorem dEach_one (f : Dsk → Nm → Fil → Dsk) (D : Dsk) (s : Nm) : dEach f D [s] = dStep f D s := by
  simp only [dEach]
  split
  · rfl
  · rename_i h
    have h : (dStep f D s).2 = 0 := by simpa using h
    rw [← h]
end
section
variable {w0 w w1 : World} {N : Nat → Prop} {d x : Nat} {D E : Dsk}
theorem Pr.psync (T : Pr w0 w N d D x E) (k1 : Nw w w1) (hN : ∀ i, N i → i < w1.heap.size) (s : Nm) (b : Nat) (hb : w.heap.size ≤ b) (hr : Rd w1 (some ⟨b, 0, none⟩) ([s].map fun s => str s)) (hs : s.length ≤ 9223372036854775807) :
    Cal Try.prog 48 #[.pointer (some ⟨d, 0, none⟩), .slice (some ⟨b, 0, none⟩) 1 1] w1 fun v w' => v = i64 (dStep fSync D s).2 ∧ Pr w0 w' N d (dStep fSync D s).1 x E ∧ Kp (Ns w0 N) w1 w' := by
  refine T.pc k1 hN fun F h hF hlt => ?_
  have := dsync_spec [s] (some ⟨b, 0, none⟩) 1 d D F w1 h hr (fun a ha _ hf => by cases ha; have := hlt _ hf; simp at this; omega) (by simp) (by simpa using hs)
  rwa [dEach_one] at this
theorem Pr.premove (T : Pr w0 w N d D x E) (k1 : Nw w w1) (hN : ∀ i, N i → i < w1.heap.size) (s : Nm) (b : Nat) (hb : w.heap.size ≤ b) (hr : Rd w1 (some ⟨b, 0, none⟩) ([s].map fun s => str s)) (hs : s.length ≤ 9223372036854775807) :
    Cal Try.prog 62 #[.pointer (some ⟨d, 0, none⟩), .slice (some ⟨b, 0, none⟩) 1 1] w1 fun v w' => v = i64 (dStep fRemove D s).2 ∧ Pr w0 w' N d (dStep fRemove D s).1 x E ∧ Kp (Ns w0 N) w1 w' := by
  refine T.pc k1 hN fun F h hF hlt => ?_
  have := dremove_spec [s] (some ⟨b, 0, none⟩) 1 d D F w1 h hr (fun a ha _ hf => by cases ha; have := hlt _ hf; simp at this; omega) (by simp) (by simpa using hs)
  rwa [dEach_one] at this
theorem Pr.pappend (T : Pr w0 w N d D x E) (k1 : Nw w w1) (hN : ∀ i, N i → i < w1.heap.size) (s : Nm) (p : List UInt8) (A : Option Addr) (c : Nat) (hr : Brs w1 A [p] fun _ => False) (hc : 1 ≤ c) (hp : p.length ≤ 140737488355328) (hs : s.length ≤ 9223372036854775807) :
    Cal Try.prog 16 #[.pointer (some ⟨d, 0, none⟩), str s, .slice A 1 c] w1 fun v w' => v = i64 (dAppend D s p).2 ∧ Pr w0 w' N d (dAppend D s p).1 x E ∧ Kp (Ns w0 N) w1 w' := by
  refine T.pc k1 hN fun F h hF hlt => ?_
  have := dappend_spec s [p] A c d D F _ w1 h hr (by simpa using hc) (by simp) (by simpa using hp) hs
  rwa [show ([p] : List (List UInt8)).flatten = p by simp] at this
theorem Pr.ptrunc (T : Pr w0 w N d D x E) (k1 : Nw w w1) (hN : ∀ i, N i → i < w1.heap.size) (s : Nm) (n : Int) (hs : s.length ≤ 9223372036854775807) :
    Cal Try.prog 47 #[.pointer (some ⟨d, 0, none⟩), str s, i64 n] w1 fun v w' => v = i64 (dTrunc D s n).2 ∧ Pr w0 w' N d (dTrunc D s n).1 x E ∧ Kp (Ns w0 N) w1 w' :=
  T.pc k1 hN fun F h hF hlt => dtrunc_spec s n d D F w1 h hs
theorem Pr.prename (T : Pr w0 w N d D x E) (k1 : Nw w w1) (hN : ∀ i, N i → i < w1.heap.size) (a b : Nm) (ha : a.length ≤ 9223372036854775807) (hb : b.length ≤ 9223372036854775807) :
    Cal Try.prog 60 #[.pointer (some ⟨d, 0, none⟩), str a, str b] w1 fun v w' => v = i64 (dRename D a b).2 ∧ Pr w0 w' N d (dRename D a b).1 x E ∧ Kp (Ns w0 N) w1 w' :=
  T.pc k1 hN fun F h hF hlt => (drename_spec a b d D F w1 h ha hb).mono fun v w' ⟨e, h, k⟩ => ⟨e, F, h, fun i hi => .inl hi, k⟩
theorem Pr.pfuse (T : Pr w0 w N d D x E) (k1 : Nw w w1) (hN : ∀ i, N i → i < w1.heap.size) (n : Int) (hn : n ≤ 9223372036854775807) :
    Cal Try.prog 30 #[.pointer (some ⟨d, 0, none⟩), i64 n] w1 fun v w' => v = .tuple #[] ∧ Pr w0 w' N d (dFuse D n) x E ∧ Kp (Ns w0 N) w1 w' :=
  T.pc k1 hN fun F h hF hlt => (dfuse_spec n hn d D F w1 h).mono fun v w' ⟨e, h', k⟩ => ⟨e, F, h', fun i hi => .inl hi, k.mono fun i _ (e : i = d) => by
    obtain ⟨_, _, _, _, _, hM⟩ := h
    exact e ▸ hM.fg⟩
theorem Pr.pcrash (T : Pr w0 w N d D x E) (k1 : Nw w w1) (hN : ∀ i, N i → i < w1.heap.size) (n : Int) :
    Cal Try.prog 17 #[.pointer (some ⟨d, 0, none⟩), i64 n] w1 fun v w' => v = .tuple #[] ∧ Pr w0 w' N d (dCrash D n) x E ∧ Kp (Ns w0 N) w1 w' :=
  T.pc k1 hN fun F h hF hlt => (dcrash_spec n d D F w1 h).mono fun v w' ⟨e, h, k⟩ => ⟨e, F, h, fun i hi => .inl hi, k⟩
theorem Pr.pread (T : Pr w0 w N d D x E) (k1 : Nw w w1) (s : Nm) :
    Cal Try.prog 36 #[.pointer (some ⟨d, 0, none⟩), str s] w1 fun v w' => Nw w1 w' ∧ ∃ u, v = .tuple #[u, i64 (dRead D s).2] ∧ Bs w' u (dRead D s).1 w1.heap.size := by
  obtain ⟨F, G, h1, h2, h3, h4, h5, h6⟩ := T
  exact dread_spec s d D F w1 (h1.nw k1)
theorem Pr.rread (T : Pr w0 w N d E x D) (ok : D.Ok) (k1 : Nw w w1) (s : Nm) :
    Cal Try.prog 37 #[.pointer (some ⟨x, 0, none⟩), str s] w1 fun v w' => Nw w1 w' ∧ ∃ u, v = .tuple #[u, i64 (dRead D s).2] ∧ Bs w' u (dRead D s).1 w1.heap.size := by
  obtain ⟨F, G, h1, h2, h3, h4, h5, h6⟩ := T
  exact rread_spec s x D G w1 (h2.nw k1) ok
theorem Pr.rsync (T : Pr w0 w N d E x D) (ok : D.Ok) (k1 : Nw w w1) (hN : ∀ i, N i → i < w1.heap.size) (s : Nm) (hs : s.length ≤ 9223372036854775807) :
    Cal Try.prog 58 #[.pointer (some ⟨x, 0, none⟩), str s] w1 fun v w' => v = i64 (dStep fSync D s).2 ∧ Pr w0 w' N d E x (dStep fSync D s).1 ∧ Kp (Ns w0 N) w1 w' :=
  T.rc k1 hN fun F h hF hlt => rsync_spec s x D F w1 h ok hs
theorem Pr.rremove (T : Pr w0 w N d E x D) (ok : D.Ok) (k1 : Nw w w1) (hN : ∀ i, N i → i < w1.heap.size) (s : Nm) (hs : s.length ≤ 9223372036854775807) :
    Cal Try.prog 63 #[.pointer (some ⟨x, 0, none⟩), str s] w1 fun v w' => v = i64 (dStep fRemove D s).2 ∧ Pr w0 w' N d E x (dStep fRemove D s).1 ∧ Kp (Ns w0 N) w1 w' :=
  T.rc k1 hN fun F h hF hlt => rremove_spec s x D F w1 h ok hs
theorem Pr.rappend (T : Pr w0 w N d E x D) (ok : D.Ok) (k1 : Nw w w1) (hN : ∀ i, N i → i < w1.heap.size) (s : Nm) (p : List UInt8) (A : Option Addr) (c : Nat) (hr : Rd w1 A (p.map u8)) (hA : ∀ F : Nat → Prop, (∀ i, F i → Ns w0 N i) → (∀ i, F i → i < w.heap.size) → Ofl A (p.map u8) F) (hp : p.length ≤ 1073741824) (hs : s.length ≤ 9223372036854775807) :
    Cal Try.prog 32 #[.pointer (some ⟨x, 0, none⟩), str s, .slice A p.length c] w1 fun v w' => v = i64 (dAppend D s p).2 ∧ Pr w0 w' N d E x (dAppend D s p).1 ∧ Kp (Ns w0 N) w1 w' :=
  T.rc k1 hN fun F h hF hlt => rappend_spec s p A c x D F w1 h ok hs hr (hA F hF hlt) hp
theorem Pr.rtrunc (T : Pr w0 w N d E x D) (ok : D.Ok) (k1 : Nw w w1) (hN : ∀ i, N i → i < w1.heap.size) (s : Nm) (n : Int) (hs : s.length ≤ 9223372036854775807) :
    Cal Try.prog 59 #[.pointer (some ⟨x, 0, none⟩), str s, i64 n] w1 fun v w' => v = i64 (dTrunc D s n).2 ∧ Pr w0 w' N d E x (dTrunc D s n).1 ∧ Kp (Ns w0 N) w1 w' :=
  T.rc k1 hN fun F h hF hlt => rtrunc_spec s n x D F w1 h ok hs
theorem Pr.rrename (T : Pr w0 w N d E x D) (ok : D.Ok) (k1 : Nw w w1) (hN : ∀ i, N i → i < w1.heap.size) (a b : Nm) (ha : a.length ≤ 9223372036854775807) (hb : b.length ≤ 9223372036854775807) :
    Cal Try.prog 61 #[.pointer (some ⟨x, 0, none⟩), str a, str b] w1 fun v w' => v = i64 (dRename D a b).2 ∧ Pr w0 w' N d E x (dRename D a b).1 ∧ Kp (Ns w0 N) w1 w' :=
  T.rc k1 hN fun F h hF hlt => rrename_spec a b x D F w1 h ok ha hb
theorem Pr.rfuse (T : Pr w0 w N d E x D) (k1 : Nw w w1) (hN : ∀ i, N i → i < w1.heap.size) (n : Int) :
    Cal Try.prog 31 #[.pointer (some ⟨x, 0, none⟩), i64 n] w1 fun v w' => v = .tuple #[] ∧ Pr w0 w' N d E x (dFuse D n) ∧ Kp (Ns w0 N) w1 w' :=
  T.rc k1 hN fun F h hF hlt => (rfuse_spec n x D F w1 h).mono fun v w' ⟨e, h', k⟩ => ⟨e, F, h', fun i hi => .inl hi, k.mono fun i _ (e : i = x) => by
    obtain ⟨_, _, _, _, _, hM⟩ := h
    exact e ▸ hM.inn x (.inl rfl)⟩
theorem Pr.rcrash (T : Pr w0 w N d E x D) (ok : D.Ok) (k1 : Nw w w1) (hN : ∀ i, N i → i < w1.heap.size) (n : Int) :
    Cal Try.prog 29 #[.pointer (some ⟨x, 0, none⟩), i64 n] w1 fun v w' => v = .tuple #[] ∧ Pr w0 w' N d E x (dCrash D n) ∧ Kp (Ns w0 N) w1 w' :=
  T.rc k1 hN fun F h hF hlt => rcrash_spec n x D F w1 h ok
end

theorem same_spec (A B : Option Addr) (c d : Nat) (xs ys : List UInt8) (w : World) (hx : Rd w A (xs.map u8)) (hy : Rd w B (ys.map u8)) (hl : xs.length ≤ 140737488355328) :
    Cal Try.prog 49 #[.slice A xs.length c, .slice B ys.length d] w fun v w' => v = .bool (decide (xs = ys)) ∧ Nw w w' := by
  refine enter Try.mixed Try.func49 rfl (by kernel_rfl) ?_
  simp -dsimp [go_sem]
  refine cond_n (fun h => ?_) (fun h => ?_)
  · simp -dsimp [go_sem]
    refine ⟨?_, Kp.refl _ _⟩
    rintro rfl; exact h rfl
  · have hlen : xs.length = ys.length := by omega
    simp -dsimp [go_sem]
    refine loop [4, 5, 11, 12, 13, 14, 15, 16, 17, 18, 19, 20, 21, 22, 23, 24, 25] (by kernel_rfl) (fun f w' => Box1 (fun a w' => ∃ k : Nat, k ≤ xs.length ∧ a = i64 k ∧ xs.take k = ys.take k ∧ w'.heap = w.heap ∧ Nw w w') (f 5) w')
      (fun f _ => xs.length - (intOf (f 5)).toNat) ⟨0, Nat.zero_le _, rfl, by simp, rfl, Kp.refl _ _⟩ ?_
    rintro f w' ⟨k, hk, f5, ht, hh, hK⟩
    simp -dsimp [go_sem, f5]
    refine cond_d (fun hlt => ?_) (fun hlt => ?_)
    · have hlt : k < xs.length := by omega
      obtain ⟨b, o, rfl, hc⟩ := hx k (u8 xs[k]) (by simp [hlt])
      have hlt' : k < ys.length := by omega
      obtain ⟨b', o', rfl, hc'⟩ := hy k (u8 ys[k]) (by simp [hlt'])
      simp -dsimp [go_sem]
      refine draw (.take 0 (.take 1 (.take 2 (.take 3 (.take 4 (.take 5 (.take 6 (.take 7 (.take 8 .done))))))))) (by kernel_rfl) (fun w1 => w1.heap = w.heap) hh ?_
      have hcell : ∀ w1 : World, w1.heap = w.heap → ∀ a, w1.cell? a = w.cell? a := fun w1 h a => by simp [World.cell?, h]
      simp -dsimp [go_sem, f5, hlt, hlt', hcell w' hh, hc, hc']
      refine ⟨fun w1 h1 => by simp [hcell w1 h1, hc], fun w1 h1 => by simp [hcell w1 h1, hc'], ?_⟩
      refine cond_n (fun hne => ?_) (fun he => ?_)
      · simp -dsimp [go_sem]
        exact ⟨fun e => hne (by simp [e]), hK.drew⟩
      · have hk1 : IntKind.i64.wrap ((k : Int) + 1) = ((k + 1 : Nat) : Int) := w64 (by omega) (by omega)
        obtain ⟨k1, hk1'⟩ : ∃ k1, k1 = k + 1 := ⟨_, rfl⟩
        rw [← hk1'] at hk1
        simp -dsimp [go_sem, f5, hk1]
        refine ⟨⟨k1, by omega, rfl, ?_, hh, hK.drew⟩, by simp [intOf]; omega⟩
        rw [hk1', List.take_succ_eq_append_getElem hlt, List.take_succ_eq_append_getElem hlt', ht]
        have : xs[k] = ys[k] := UInt8.toNat_inj.1 (by omega)
        rw [this]
    · obtain rfl : k = xs.length := by omega
      simp -dsimp [go_sem]
      refine ⟨?_, hK⟩
      rw [List.take_length, List.take_of_length_le (by omega)] at ht
      exact ht
theorem spoil_spec (l : List UInt8) (w : World) (A : Option Addr) (c : Nat) (ho : Ow w 5 1 A l.length c (l.map u8)) (hl : l.length + 1 ≤ 140737488355328) :
    Cal Try.prog 57 #[.slice A l.length c] w fun v w' => v = .tuple #[] ∧ Kp (blk A) w w' := by
  refine enter Try.mixed Try.func57 rfl (by kernel_rfl) ?_
  simp -dsimp [go_sem]
  have k0 : Nw w (w.alloc (.cells #[.int .u8 99] 5)) := (Kp.refl _ _).alloc _
  refine app Try.Su8 (ho.nw k0) (Rd.fresh (xs := [99].map u8) rfl rfl) (m := 1) (by simp) (one_u8 [99]) (by omega) (by omega) ?_
  intro A' c' w1 ho1 hk1 hAA
  obtain ⟨g, rfl⟩ := ho1.some (by omega)
  have hg : w.heap.size ≤ g ∨ blk A g := by
    rcases hAA with rfl | ⟨e, _⟩
    · exact .inr rfl
    · cases e; exact .inl k0.size
  have k1 : Kp (blk A) w w1 := (k0.kp _).trans hk1 fun _ _ h => h
  simp -dsimp [go_sem]
  refine loop [3, 7, 8, 9, 10, 11, 12, 13, 14, 15] (by kernel_rfl) (fun f w' => Box1 (fun a w' => ∃ (i : Nat) (ys : List Value), i ≤ l.length + 1 ∧ a = i64 i ∧ Ow w' 5 1 (some ⟨g, 0, none⟩) (l.length + 1) c' ys ∧ Kp (blk A) w w') (f 3) w')
    (fun f _ => l.length + 1 - (intOf (f 3)).toNat) ⟨0, _, Nat.zero_le _, rfl, ho1, k1⟩ ?_
  rintro f w' ⟨i, ys, hi, f3, ho', hK⟩
  obtain ⟨n, hn⟩ : ∃ n, n = l.length + 1 := ⟨_, rfl⟩
  rw [← hn] at ho' hi ⊢
  simp -dsimp [go_sem, f3, ← hn]
  refine cond_d (fun hlt => ?_) (fun hlt => ?_)
  · have hlt : i < n := by omega
    have hc := ho'.rd.at_ (j := i) (by rw [ho'.1]; omega)
    obtain ⟨b, o, e, hc⟩ := hc
    cases e
    rw [Nat.zero_add] at hc
    have hf := ho'.frozen i
    have hk1 : IntKind.i64.wrap ((i : Int) + 1) = ((i + 1 : Nat) : Int) := w64 (by omega) (by omega)
    obtain ⟨k1, hk1'⟩ : ∃ k1, k1 = i + 1 := ⟨_, rfl⟩
    rw [← hk1'] at hk1
    simp -dsimp [go_sem, f3, hlt, hc, hf, hk1, ← hn]
    refine ⟨⟨k1, _, by omega, rfl, ho'.set i _, hK.setCell _ _ hg⟩, by simp [intOf]; omega⟩
  · simp -dsimp [go_sem]
    exact hK

theorem roomy_spec (l : List UInt8) (w : World) (A : Option Addr) (c : Nat) (hr : Rd w A (l.map u8)) (hl : l.length + 2 ≤ 140737488355328) :
    Cal Try.prog 55 #[.slice A l.length c] w fun v w' => Bs w' v (l ++ [171]) w.heap.size ∧ Nw w w' := by
  refine enter Try.mixed Try.func55 rfl (by kernel_rfl) ?_
  simp -dsimp [go_sem]
  have k0 : Nw w (w.alloc (.cells #[] 5)) := (Kp.refl _ _).alloc _
  refine bs_app (m := l) (l := []) (B := w.heap.size) (Gs.made w 5 1 0 #[] rfl rfl rfl (by simp [maxLen]) (Nat.le_refl _)) (hr.nw k0) (by simp; omega) k0.size ?_
  intro v1 w1 hB1 hk1
  have k1 := k0.fr hk1 (Nat.le_refl _)
  rw [List.nil_append] at hB1
  simp -dsimp [go_sem]
  refine bs_push (x := 171) hB1 rfl (by omega) (by omega) k1.size ?_
  intro v2 w2 hB2 hk2
  have k2 := k1.fr hk2 (Nat.le_refl _)
  simp -dsimp [go_sem]
  refine bs_push (x := 171) hB2 rfl (by omega) (by rw [List.length_append]; simp; omega) k2.size ?_
  intro v3 w3 hB3 hk3
  have k3 := k2.fr hk3 (Nat.le_refl _)
  obtain ⟨A3, c3, rfl, ho3, hA3⟩ := hB3
  have h1 : IntKind.i64.wrap ((l.length : Int) + 1) = ((l.length + 1 : Nat) : Int) := w64 (by omega) (by omega)
  have hlen : (l ++ [UInt8.ofNat 171] ++ [UInt8.ofNat 171]).length = l.length + 2 := by simp
  rw [hlen] at ho3
  obtain ⟨n, hn⟩ : ∃ n, n = l.length + 1 := ⟨_, rfl⟩
  have hnc : n ≤ c3 := by have := ho3.2.1; omega
  rw [← hn] at h1
  simp -dsimp [go_sem, h1, hnc]
  refine ⟨⟨A3, c3, by simp [hn], ?_, hA3⟩, k3⟩
  have := ho3.take (m := n) (by omega)
  rw [hn, Nat.mul_one, ← List.map_take, List.take_append_of_le_length (by simp), List.take_of_length_le (by simp)] at this
  simpa using this

theorem stands_spec (l : List UInt8) (w : World) (A B : Option Addr) (c d : Nat) (hA : Rd w A ((l ++ [171]).map u8)) (hc : l.length + 1 ≤ c) (hB : Rd w B (l.map u8)) (hl : l.length + 1 ≤ 140737488355328) :
    Cal Try.prog 56 #[.slice A (l.length + 1) c, .slice B l.length d] w fun v w' => v = .bool true ∧ Nw w w' := by
  refine enter Try.mixed Try.func56 rfl (by kernel_rfl) ?_
  have h1 : IntKind.i64.wrap ((l.length : Int) + 1) = ((l.length + 1 : Nat) : Int) := w64 (by omega) (by omega)
  obtain ⟨n, hn⟩ : ∃ n, n = l.length + 1 := ⟨_, rfl⟩
  have hlc : l.length ≤ c := by omega
  have hln : l.length < n := by omega
  have hc2 := hA l.length (u8 171) (by simp)
  obtain ⟨b, o, rfl, hcell⟩ := hc2
  rw [← hn] at h1 ⊢
  simp -dsimp [go_sem, h1, hlc]
  refine call (same_spec (some ⟨b, o, none⟩) B c d l l w (by simpa using hA.take l.length) hB (by omega)) ?_
  rintro v w1 ⟨rfl, hk⟩
  have hcell1 := hk.cell_some hcell fun h => h
  simp -dsimp [go_sem, hln, hcell1]
  exact hk

end Go.Proofs.Ythonmjgagblogaa
