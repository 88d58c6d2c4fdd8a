/-
  Bytes read as a box, in plain words; three numbers read at once. By the session itself.
-/
import Derived.Test.YtindfpaahlijeaaDoorBkC
namespace Go.Proofs.YtindfpaahlijeaaDoor
set_option linter.unusedSimpArgs false
set_option linter.unusedVariables false
set_option maxRecDepth 100000
set_option maxHeartbeats 1000000
open Go.Vc Go.RowKit

def nm2 (l : List UInt8) (bad : Bool) : Nat × List UInt8 × Bool := numL (numL l bad).2.1 (numL l bad).2.2
def nm3 (l : List UInt8) (bad : Bool) : Nat × List UInt8 × Bool := numL (nm2 l bad).2.1 (nm2 l bad).2.2
theorem nm2_len (l : List UInt8) (bad : Bool) : (nm2 l bad).2.1.length ≤ l.length := Nat.le_trans (numL_len _ _) (numL_len _ _)
theorem nm3_len (l : List UInt8) (bad : Bool) : (nm3 l bad).2.1.length ≤ l.length := Nat.le_trans (numL_len _ _) (nm2_len _ _)
/-- A message read. -/
def msgL (l : List UInt8) (bad : Bool) : Msg × List UInt8 × Bool :=
  (⟨(numL l bad).1, (nm2 l bad).1, (nm3 l bad).1, (bytL (nm3 l bad).2.1 (nm3 l bad).2.2).1⟩, (bytL (nm3 l bad).2.1 (nm3 l bad).2.2).2.1, (bytL (nm3 l bad).2.1 (nm3 l bad).2.2).2.2)
/-- So many messages read, while all is well. -/
def bxL : Nat → List UInt8 → Bool → List Msg → List Msg × List UInt8 × Bool
  | 0, l, bad, acc => (acc, l, bad)
  | n + 1, l, bad, acc => if bad = true then (acc, l, bad) else bxL n (msgL l bad).2.1 (msgL l bad).2.2 (acc ++ [(msgL l bad).1])
/-- What a box's bytes begin with: its name, and three numbers. -/
def bxRead (p : List UInt8) : Bx × List UInt8 × Bool :=
  (⟨⟨(bytL p false).1.toArray⟩, (numL (bytL p false).2.1 (bytL p false).2.2).1, (nm2 (bytL p false).2.1 (bytL p false).2.2).1, (bxL (nm3 (bytL p false).2.1 (bytL p false).2.2).1 (nm3 (bytL p false).2.1 (bytL p false).2.2).2.1 (nm3 (bytL p false).2.1 (bytL p false).2.2).2.2 []).1⟩,
    (bxL (nm3 (bytL p false).2.1 (bytL p false).2.2).1 (nm3 (bytL p false).2.1 (bytL p false).2.2).2.1 (nm3 (bytL p false).2.1 (bytL p false).2.2).2.2 []).2.1, (bxL (nm3 (bytL p false).2.1 (bytL p false).2.2).1 (nm3 (bytL p false).2.1 (bytL p false).2.2).2.1 (nm3 (bytL p false).2.1 (bytL p false).2.2).2.2 []).2.2)
def bxOk (p : List UInt8) : Bool := (!(bxRead p).2.2 && (bxRead p).2.1.isEmpty) && isB (bxRead p).1
def DecR (v : Value) (w : World) (p : List UInt8) (B : Nat) : Prop := (bxOk p = true ∧ ∃ u, v = .tuple #[u, i64 0] ∧ OB w u (bxRead p).1 B) ∨ (bxOk p = false ∧ v = .tuple #[.agg #[.string ⟨#[]⟩, i64 0, i64 0, .slice none 0 0], i64 3])
theorem takeN_used : ∀ (l : List UInt8) (i u n : Nat) (r : List UInt8), takeN i u l = some (n, r) → r.length + 1 ≤ l.length
  | [], _, _, _, _, h => by simp [takeN] at h
  | c :: l, i, u, n, r, h => by
    simp only [takeN] at h
    split at h
    · cases h
    · split at h
      · split at h
        · cases h
        · injection h with h
          injection h with h1 h2
          subst h2
          simp
      · have := takeN_used l _ _ _ _ h
        simp; omega
theorem numL_used {l : List UInt8} {bad : Bool} (h : (numL l bad).2.2 = false) : (numL l bad).2.1.length + 1 ≤ l.length ∧ bad = false := by
  unfold numL at h ⊢
  cases hx : takeN 0 0 l with
  | none => rw [hx] at h; cases h
  | some q =>
    obtain ⟨u, r⟩ := q
    rw [hx] at h
    exact ⟨takeN_used _ _ _ _ _ hx, h⟩
theorem bytL_size (l : List UInt8) (bad : Bool) : (bytL l bad).1.length ≤ l.length ∧ (bytL l bad).2.1.length ≤ l.length := by
  have := numL_len l bad
  unfold bytL rawL
  split
  · simp only [List.length_take, List.length_drop]; omega
  · simp
theorem bytL_used {l : List UInt8} {bad : Bool} (h : (bytL l bad).2.2 = false) : (bytL l bad).2.1.length + 1 ≤ l.length ∧ bad = false := by
  unfold bytL rawL at h ⊢
  split at h
  · rename_i hc
    have h1 := numL_used h
    rw [if_pos hc]
    refine ⟨?_, h1.2⟩
    simp only [List.length_drop]; omega
  · cases h
theorem msgL_used {l : List UInt8} {bad : Bool} (h : (msgL l bad).2.2 = false) : (msgL l bad).2.1.length + 4 ≤ l.length := by
  have h1 := bytL_used h
  have h2 := numL_used h1.2
  have h3 := numL_used h2.2
  have h4 := numL_used h3.2
  have e1 : (msgL l bad).2.1 = (bytL (nm3 l bad).2.1 (nm3 l bad).2.2).2.1 := rfl
  have e2 : (nm3 l bad).2.1 = (numL (nm2 l bad).2.1 (nm2 l bad).2.2).2.1 := rfl
  have e3 : (nm2 l bad).2.1 = (numL (numL l bad).2.1 (numL l bad).2.2).2.1 := rfl
  rw [e1]
  rw [← e2] at h2
  rw [← e3] at h3
  omega
theorem msgL_size (l : List UInt8) (bad : Bool) : (msgL l bad).1.body.length ≤ l.length ∧ (msgL l bad).2.1.length ≤ l.length := by
  have h1 := bytL_size (nm3 l bad).2.1 (nm3 l bad).2.2
  have h2 := nm3_len l bad
  exact ⟨Nat.le_trans h1.1 h2, Nat.le_trans h1.2 h2⟩
/-- Three numbers read into three places. -/
theorem nums_gen (g s b0 o0 b1 o1 b2 o2 : Nat) (t : TypeId) (l : List UInt8) (bad : Bool) (F S : Nat → Prop) (w : World) (Q : Nat → World → Prop) (h : Rdr w g l bad F) (hl : l.length ≤ 140737488355328)
    (hs : Blk w s t #[.pointer (some ⟨b0, o0, none⟩), .pointer (some ⟨b1, o1, none⟩), .pointer (some ⟨b2, o2, none⟩)]) (hFs : ¬ F s) (hSs : ¬ S s) (hFS : ∀ i, F i → ¬ S i) (hb0 : S b0) (hb1 : S b1) (hb2 : S b2)
    (q0 : Q 0 w) (hQ : ∀ i w1 w2, Q i w1 → Kp (At g) w1 w2 → Q i w2)
    (st0 : ∀ w1, Q 0 w1 → (∃ u, w1.cell? ⟨b0, o0, none⟩ = some u) ∧ w1.frozen? ⟨b0, o0, none⟩ = false ∧ Q 1 (w1.setCell ⟨b0, o0, none⟩ (i64 (numL l bad).1)))
    (st1 : ∀ w1, Q 1 w1 → (∃ u, w1.cell? ⟨b1, o1, none⟩ = some u) ∧ w1.frozen? ⟨b1, o1, none⟩ = false ∧ Q 2 (w1.setCell ⟨b1, o1, none⟩ (i64 (nm2 l bad).1)))
    (st2 : ∀ w1, Q 2 w1 → (∃ u, w1.cell? ⟨b2, o2, none⟩ = some u) ∧ w1.frozen? ⟨b2, o2, none⟩ = false ∧ Q 3 (w1.setCell ⟨b2, o2, none⟩ (i64 (nm3 l bad).1))) :
    Cal Tryd.prog 23 #[.pointer (some ⟨g, 0, none⟩), .slice (some ⟨s, 0, none⟩) 3 3] w fun v w' => v = .tuple #[] ∧ Q 3 w' ∧ Rdr w' g (nm3 l bad).2.1 (nm3 l bad).2.2 F ∧ Kp (fun k => k = g ∨ S k) w w' := by
  have hgF := h.in_
  have l1 := numL_len l bad
  have l2 := nm2_len l bad
  refine enter Tryd.mixed Tryd.func23 rfl (by kernel_rfl) ?_
  simp -dsimp [go_sem]
  refine loop [5, 6, 9, 10, 11, 12, 13, 14, 15, 16, 17, 18, 19, 20] (by kernel_rfl)
    (fun f w' => Box1 (fun x w' => ∃ i : Nat, i ≤ 3 ∧ x = i64 i ∧ Kp (fun k => k = g ∨ S k) w w' ∧ Q i w' ∧
      (i = 0 → Rdr w' g l bad F) ∧ (i = 1 → Rdr w' g (numL l bad).2.1 (numL l bad).2.2 F) ∧ (i = 2 → Rdr w' g (nm2 l bad).2.1 (nm2 l bad).2.2 F) ∧ (i = 3 → Rdr w' g (nm3 l bad).2.1 (nm3 l bad).2.2 F)) (f 9) w')
    (fun f _ => 3 - (intOf (f 9)).toNat) ⟨0, by omega, rfl, Kp.refl _ _, q0, fun _ => h, fun h => by omega, fun h => by omega, fun h => by omega⟩ ?_
  rintro f w' ⟨i, hi, f9, hK, hq, i0, i1, i2, i3⟩
  have hgs : s ≠ g := fun e => hFs (e ▸ hgF)
  have hs' := hs.kp hK fun e => by
    rcases e with e | e
    · exact hgs e
    · exact hSs e
  have s0 := hs'.cell 0
  have s1 := hs'.cell 1
  have s2 := hs'.cell 2
  have hi4 : i = 0 ∨ i = 1 ∨ i = 2 ∨ i = 3 := by omega
  rcases hi4 with rfl | rfl | rfl | rfl
  · have hR := i0 rfl
    simp -dsimp [go_sem, f9, s0]
    refine call (num_spec g _ _ F w' hR (by omega)) ?_
    rintro v w2 ⟨rfl, hR2, hk2⟩
    obtain ⟨⟨u0, hu0⟩, hfr, hnx⟩ := st0 w2 (hQ _ _ _ hq hk2)
    simp -dsimp [go_sem, f9, hu0, hfr]
    have hset : Kp (At b0) w2 (w2.setCell ⟨b0, o0, none⟩ (i64 (numL l bad).1)) := (Kp.refl _ _).setCell_at _ _
    exact ⟨⟨1, by omega, rfl, (hK.trans hk2 fun _ _ e => .inl e).trans hset fun _ _ (e : _ = b0) => .inr (e ▸ hb0), hnx, fun e => by omega, fun _ => hR2.kp_ hset fun i hF (e : i = b0) => hFS i hF (e ▸ hb0), fun e => by omega, fun e => by omega⟩, by simp [intOf]; decide +kernel⟩
  · have hR := i1 rfl
    simp -dsimp [go_sem, f9, s1]
    refine call (num_spec g _ _ F w' hR (by omega)) ?_
    rintro v w2 ⟨rfl, hR2, hk2⟩
    obtain ⟨⟨u0, hu0⟩, hfr, hnx⟩ := st1 w2 (hQ _ _ _ hq hk2)
    simp -dsimp [go_sem, f9, hu0, hfr]
    have hset : Kp (At b1) w2 (w2.setCell ⟨b1, o1, none⟩ (i64 (nm2 l bad).1)) := (Kp.refl _ _).setCell_at _ _
    exact ⟨⟨2, by omega, rfl, (hK.trans hk2 fun _ _ e => .inl e).trans hset fun _ _ (e : _ = b1) => .inr (e ▸ hb1), hnx, fun e => by omega, fun e => by omega, fun _ => hR2.kp_ hset fun i hF (e : i = b1) => hFS i hF (e ▸ hb1), fun e => by omega⟩, by simp [intOf]; decide +kernel⟩
  · have hR := i2 rfl
    simp -dsimp [go_sem, f9, s2]
    refine call (num_spec g _ _ F w' hR (by omega)) ?_
    rintro v w2 ⟨rfl, hR2, hk2⟩
    obtain ⟨⟨u0, hu0⟩, hfr, hnx⟩ := st2 w2 (hQ _ _ _ hq hk2)
    simp -dsimp [go_sem, f9, hu0, hfr]
    have hset : Kp (At b2) w2 (w2.setCell ⟨b2, o2, none⟩ (i64 (nm3 l bad).1)) := (Kp.refl _ _).setCell_at _ _
    exact ⟨⟨3, by omega, rfl, (hK.trans hk2 fun _ _ e => .inl e).trans hset fun _ _ (e : _ = b2) => .inr (e ▸ hb2), hnx, fun e => by omega, fun e => by omega, fun e => by omega, fun _ => hR2.kp_ hset fun i hF (e : i = b2) => hFS i hF (e ▸ hb2)⟩, by simp [intOf]; decide +kernel⟩
  · simp -dsimp [go_sem, f9]
    exact ⟨hq, i3 rfl, hK⟩
end Go.Proofs.YtindfpaahlijeaaDoor
