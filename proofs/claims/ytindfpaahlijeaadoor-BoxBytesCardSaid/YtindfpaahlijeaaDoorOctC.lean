/-
  What the Writer of octet lays: numbers, rows of bytes, raw bytes. By the session itself.
-/
import Derived.Test.YtindfpaahlijeaaDoorOctB
namespace Go.Proofs.YtindfpaahlijeaaDoor
set_option linter.unusedSimpArgs false
set_option linter.unusedVariables false
set_option maxRecDepth 100000
open Go.Vc Go.RowKit

/-- A row of bytes taken. -/
def bytL (l : List UInt8) (bad : Bool) : List UInt8 × List UInt8 × Bool := rawL (numL l bad).2.1 (numL l bad).2.2 (numL l bad).1
theorem takeN_len : ∀ (l : List UInt8) (i u n : Nat) (r : List UInt8), takeN i u l = some (n, r) → r.length ≤ l.length ∧ n ≤ 4611686018427387904
  | [], _, _, _, _, h => by simp [takeN] at h
  | c :: l, i, u, n, r, h => by
    simp only [takeN] at h
    split at h
    · cases h
    · split at h
      · split at h
        · cases h
        · injection h with h
          injection h with h1 h2
          subst h1; subst h2
          exact ⟨by simp, by omega⟩
      · have := takeN_len l _ _ _ _ h
        exact ⟨by simp; omega, this.2⟩
theorem numL_len (l : List UInt8) (bad : Bool) : (numL l bad).2.1.length ≤ l.length := by
  unfold numL
  split
  · rename_i u r h; exact (takeN_len l _ _ _ _ h).1
  · simp

theorem rBytes_spec (g : Nat) (l : List UInt8) (bad : Bool) (F : Nat → Prop) (w : World) (h : Rdr w g l bad F) (hl : l.length ≤ 140737488355328) :
    Cal Tryd.prog 22 #[.pointer (some ⟨g, 0, none⟩)] w fun v w' => Bs w' v (bytL l bad).1 w.heap.size ∧ Rdr w' g (bytL l bad).2.1 (bytL l bad).2.2 F ∧ Kp (At g) w w' := by
  refine enter Tryd.mixed Tryd.func22 rfl (by kernel_rfl) ?_
  simp -dsimp [go_sem]
  refine call (num_spec g l bad F w h hl) ?_
  rintro v w1 ⟨rfl, hR, hk⟩
  simp -dsimp [go_sem]
  refine call (raw_spec g _ _ F _ w1 hR (Nat.le_trans (numL_len l bad) hl)) ?_
  rintro v w2 ⟨hB, hR2, hk2⟩
  simp -dsimp [go_sem]
  exact ⟨hB.mono hk.size, hR2, hk.trans hk2 fun _ _ h => h⟩

/-- A number as bytes. -/
def numB (n : Nat) : List UInt8 := if h : n < 128 then [UInt8.ofNat n] else UInt8.ofNat (n % 128 + 128) :: numB (n / 128)
termination_by n
decreasing_by omega
theorem numB_small {n : Nat} (h : n < 128) : numB n = [UInt8.ofNat n] := by rw [numB, dif_pos h]
theorem numB_big {n : Nat} (h : ¬ n < 128) : numB n = UInt8.ofNat (n % 128 + 128) :: numB (n / 128) := by rw [numB, dif_neg h]
theorem numB_len (k : Nat) : ∀ n, n < 2 ^ (7 * (k + 1)) → (numB n).length ≤ k + 1 := by
  induction k with
  | zero => intro n h; rw [numB_small (by simpa using h)]; simp
  | succ k ih =>
    intro n h
    by_cases hs : n < 128
    · rw [numB_small hs]; simp
    · rw [numB_big hs, List.length_cons]
      have := ih (n / 128) (by rw [show 7 * (k + 1 + 1) = 7 * (k + 1) + 7 by omega, Nat.pow_add] at h; omega)
      omega
/-- A number as it is laid. -/
def clampN (v : Int) : Nat := (max 0 (min v 4611686018427387904)).toNat
theorem clampN_le (v : Int) : clampN v ≤ 4611686018427387904 := by unfold clampN; omega
def numsB (vs : List Int) : List UInt8 := vs.flatMap fun v => numB (clampN v)
theorem numB_len9 {n : Nat} (h : n ≤ 4611686018427387904) : (numB n).length ≤ 9 := numB_len 8 n (by omega)
theorem numsB_len (vs : List Int) : (numsB vs).length ≤ 9 * vs.length := by
  induction vs with
  | nil => simp [numsB]
  | cons v vs ih =>
    have := numB_len9 (clampN_le v)
    simp only [numsB, List.flatMap_cons, List.length_append, List.length_cons] at ih ⊢
    omega

/-- A Writer at block g that has laid l; it lies within F. -/
def Wr (w : World) (g : Nat) (l : List UInt8) (F : Nat → Prop) : Prop :=
  ∃ A c, Blk w g 44 #[.slice A l.length c] ∧ Ow w 5 1 A l.length c (l.map u8) ∧ Off A (At g) ∧ (∀ k, k = g ∨ blk A k → F k) ∧ (∀ k, F k → k < w.heap.size)
theorem Wr.kp_ {S : Nat → Prop} {w w' : World} {g : Nat} {l : List UInt8} {F : Nat → Prop} (h : Wr w g l F) (k : Kp S w w') (hd : ∀ i, F i → ¬ S i) : Wr w' g l F := by
  obtain ⟨A, c, hb, ho, hg, hF, hFl⟩ := h
  exact ⟨A, c, hb.kp k (hd _ (hF _ (.inl rfl))), ho.kp k (Off.of_blk fun i hi => hd _ (hF _ (.inr hi))), hg, hF, fun i hi => Nat.lt_of_lt_of_le (hFl i hi) k.size⟩
theorem Wr.lt_ {w : World} {g : Nat} {l : List UInt8} {F : Nat → Prop} (h : Wr w g l F) : ∀ k, F k → k < w.heap.size := by
  obtain ⟨_, _, _, _, _, _, h⟩ := h
  exact h

/-- A store of what was appended. -/
theorem wr_app {w w1 w2 : World} {g c c' : Nat} {A A' : Option Addr} {l m : List UInt8} {F : Nat → Prop} (hb : Blk w g 44 #[.slice A l.length c]) (hA : Off A (At g)) (hF : ∀ k, k = g ∨ blk A k → F k)
    (h1 : Nw w w1) (ho : Ow w2 5 1 A' (l.length + m.length) c' (l.map u8 ++ m.map u8)) (hk : Kp (blk A) w1 w2) (hAA : A' = A ∨ A' = some ⟨w1.heap.size, 0, none⟩ ∧ w1.heap.size < w2.heap.size) :
    ∃ F', Wr (w2.setCell ⟨g, 0, none⟩ (.slice A' (l.length + m.length) c')) g (l ++ m) F' ∧ Gr F F' w (w2.setCell ⟨g, 0, none⟩ (.slice A' (l.length + m.length) c')) ∧ Kp F w (w2.setCell ⟨g, 0, none⟩ (.slice A' (l.length + m.length) c')) := by
  have hoff : ¬ blk A g := fun h => by
    obtain ⟨a, rfl, e⟩ := blk_of h
    exact hA a rfl e
  have hb1 := hb.kp h1 (fun h => h)
  have hb2 := hb1.kp hk hoff
  have hA' : Off A' (At g) := by
    rcases hAA with rfl | ⟨rfl, h⟩
    · exact hA
    · rintro a ha e
      cases ha
      have := hb1.lt
      have e : w1.heap.size = g := e
      omega
  have hs : Kp (At g) w2 (w2.setCell ⟨g, 0, none⟩ (.slice A' (l.length + m.length) c')) := (Kp.refl _ _).setCell_at _ _
  refine ⟨fun k => k = g ∨ blk A' k, ⟨A', c', ?_, ?_, hA', fun k h => h, ?_⟩, ?_, ?_⟩
  · simpa using hb2.set 0 _
  · have := ho.kp hs hA'
    simpa using this
  · rintro k (rfl | h)
    · simpa using hb2.lt
    · obtain ⟨a, rfl, rfl⟩ := blk_of h
      simpa using ho.lt a rfl
  · rintro k (rfl | h)
    · exact .inl (hF _ (.inl rfl))
    · rcases hAA with rfl | ⟨rfl, h'⟩
      · exact .inl (hF _ (.inr h))
      · have h : k = w1.heap.size := h
        exact .inr ⟨by have := h1.size; omega, by simp; omega⟩
  · exact ((h1.kp F).trans (hk.mono fun k _ h => hF _ (.inr h)) fun _ _ h => h).trans (hs.mono fun k _ h => hF _ (.inl h)) fun _ _ h => h

theorem wRaw_spec (g : Nat) (l m : List UInt8) (F : Nat → Prop) (B : Option Addr) (d : Nat) (w : World) (h : Wr w g l F) (hr : Rd w B (m.map u8)) (hl : l.length + m.length ≤ 140737488355328) :
    Cal Tryd.prog 39 #[.pointer (some ⟨g, 0, none⟩), .slice B m.length d] w fun v w' => v = .tuple #[] ∧ ∃ F', Wr w' g (l ++ m) F' ∧ Gr F F' w w' ∧ Kp F w w' := by
  obtain ⟨A, c, hb, ho, hA, hF, hFl⟩ := h
  have h0 := hb.cell 0
  have f0 := hb.frozen 0
  refine enter Tryd.mixed Tryd.func39 rfl (by kernel_rfl) ?_
  simp -dsimp [go_sem, h0]
  refine app Tryd.Su8 ho hr (by simp) (one_u8 m) (by omega) (by omega) ?_
  intro A' c' w' ho' hk hAA
  have hoff : ¬ blk A g := fun h => by
    obtain ⟨a, rfl, e⟩ := blk_of h
    exact hA a rfl e
  have hb' := hb.kp hk hoff
  simp -dsimp [go_sem, hb'.cell 0, hb'.frozen 0]
  exact wr_app hb hA hF (Kp.refl _ w) ho' hk hAA

end Go.Proofs.YtindfpaahlijeaaDoor
