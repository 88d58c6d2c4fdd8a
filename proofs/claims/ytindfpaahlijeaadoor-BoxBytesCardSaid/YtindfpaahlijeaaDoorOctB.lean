/-
  What the Reader of octet takes: raw bytes, numbers, rows. By the session itself.
-/
import Derived.Test.YtindfpaahlijeaaDoorOctA
import Derived.Laws.BitsAllLaws
namespace Go.Proofs.YtindfpaahlijeaaDoor
set_option linter.unusedSimpArgs false
set_option linter.unusedVariables false
set_option maxRecDepth 100000
open Go.Vc Go.RowKit

/-- So many bytes: what comes, what is left, whether it erred. -/
def rawL (l : List UInt8) (bad : Bool) (n : Int) : List UInt8 × List UInt8 × Bool := if 0 ≤ n ∧ n ≤ l.length then (l.take n.toNat, l.drop n.toNat, bad) else ([], [], true)

theorem rdr_cut {w : World} {g c : Nat} {A : Option Addr} {l : List UInt8} {bad : Bool} {F : Nat → Prop} (hb : Blk w g 74 #[.slice A l.length c, .bool bad]) (hc : l.length ≤ c) (hcm : c ≤ maxLen)
    (hr : Rd w A (l.map u8)) (ho : Off A (At g)) (hbad : bad = true → l = []) (hF : ∀ k, k = g ∨ blk A k → F k) (hFl : ∀ k, F k → k < w.heap.size) (m : Nat) (hm : m ≤ l.length) :
    Rdr (w.setCell ⟨g, 0, none⟩ (.slice (cutA A c m) (l.length - m) (c - m))) g (l.drop m) bad F := by
  have hs : Kp (At g) w (w.setCell ⟨g, 0, none⟩ (.slice (cutA A c m) (l.length - m) (c - m))) := (Kp.refl _ _).setCell_at _ _
  refine ⟨cutA A c m, c - m, ?_, by simp; omega, by omega, ?_, ho.cut c m, ?_, ?_, by simpa using hFl⟩
  · simpa [cutA] using hb.set 0 _
  · rw [List.map_drop]
    exact ((hr.cut (by simpa using hc) m).kp hs ((ho.cut c m).l _))
  · intro h
    simp [hbad h]
  · rintro k (rfl | h)
    · exact hF _ (.inl rfl)
    · exact hF _ (.inr (blk_cut h))
theorem raw_spec (g : Nat) (l : List UInt8) (bad : Bool) (F : Nat → Prop) (n : Int) (w : World) (h : Rdr w g l bad F) (hl : l.length ≤ 140737488355328) :
    Cal Tryd.prog 41 #[.pointer (some ⟨g, 0, none⟩), i64 n] w fun v w' => Bs w' v (rawL l bad n).1 w.heap.size ∧ Rdr w' g (rawL l bad n).2.1 (rawL l bad n).2.2 F ∧ Kp (At g) w w' := by
  obtain ⟨A, c, hb, hc, hcm, hr, ho, hbad, hF, hFl⟩ := id h
  have h0 := hb.cell 0
  have f0 := hb.frozen 0
  by_cases h1 : n < 0
  · have e : rawL l bad n = ([], [], true) := if_neg (by omega)
    rw [e]
    refine enter Tryd.mixed Tryd.func41 rfl (by kernel_rfl) ?_
    simp -dsimp [go_sem, h1]
    refine call (bad_spec g l bad F w h) ?_
    rintro v w' ⟨rfl, hR, hk⟩
    simp -dsimp [go_sem]
    exact ⟨⟨none, 0, rfl, Ow.nil _ _ _, by simp⟩, hR, hk⟩
  · by_cases h2 : (l.length : Int) < n
    · have e : rawL l bad n = ([], [], true) := if_neg (by omega)
      rw [e]
      refine enter Tryd.mixed Tryd.func41 rfl (by kernel_rfl) ?_
      simp -dsimp [go_sem, h1, h0, h2]
      refine call (bad_spec g l bad F w h) ?_
      rintro v w' ⟨rfl, hR, hk⟩
      simp -dsimp [go_sem]
      exact ⟨⟨none, 0, rfl, Ow.nil _ _ _, by simp⟩, hR, hk⟩
    · obtain ⟨m, rfl⟩ : ∃ m : Nat, n = m := ⟨n.toNat, by omega⟩
      have hm : m ≤ l.length := by omega
      have e : rawL l bad m = (l.take m, l.drop m, bad) := if_pos (by omega)
      rw [e]
      refine enter Tryd.mixed Tryd.func41 rfl (by kernel_rfl) ?_
      have hmc : m ≤ c := by omega
      simp -dsimp [go_sem, h1, h0, h2, hmc, sliced]
      have hr1 : Rd w A ((l.take m).map u8) := by rw [List.map_take]; exact hr.take m
      have hc1 := clone_spec A c (l.take m) w hr1 (by simp; omega)
      rw [List.length_take, Nat.min_eq_left hm] at hc1
      refine call hc1 ?_
      rintro v w' ⟨⟨A', c', rfl, hw, hf⟩, hk⟩
      have hb' := hb.kp hk (fun h => h)
      have h0' := hb'.cell 0
      have f0' := hb'.frozen 0
      simp -dsimp [go_sem, h0', f0', hm, sliced]
      have hs : Kp (At g) w' (w'.setCell ⟨g, 0, none⟩ (.slice (cutA A c m) (l.length - m) (c - m))) := (Kp.refl _ _).setCell_at _ _
      refine ⟨⟨A', c', by simp [Nat.min_eq_left hm], hw.kp hs fun a ha e => ?_, hf⟩, rdr_cut hb' hc hcm (hr.nw hk) ho hbad hF (fun k h => Nat.lt_of_lt_of_le (hFl k h) hk.size) m hm, (hk.kp _).trans hs fun _ _ h => h⟩
      have h1 := hf a ha
      have h2 := hb.lt
      have e : a.block = g := e
      omega

/-- A number, taken from byte i on, u being what the bytes ahead told. -/
def takeN : Nat → Nat → List UInt8 → Option (Nat × List UInt8)
  | _, _, [] => none
  | i, u, c :: r => if 9 ≤ i ∨ 0 < i ∧ c.toNat = 0 then none else
    if c.toNat < 128 then (if 4611686018427387904 < u + c.toNat % 128 * 2 ^ (7 * i) then none else some (u + c.toNat % 128 * 2 ^ (7 * i), r)) else takeN (i + 1) (u + c.toNat % 128 * 2 ^ (7 * i)) r
/-- A number taken: what comes, what is left, whether it erred. -/
def numL (l : List UInt8) (bad : Bool) : Nat × List UInt8 × Bool := match takeN 0 0 l with | some (u, r) => (u, r, bad) | none => (0, [], true)

theorem or_join (k u x : Nat) (hk : k ≤ 8) (hu : u < 2 ^ (7 * k)) (hx : x < 128) : bits .or .u64 (u : Int) ((x * 2 ^ (7 * k) : Nat) : Int) = ((u + x * 2 ^ (7 * k) : Nat) : Int) := by
  have h1 : 2 ^ (7 * k) ≤ 2 ^ 56 := Nat.pow_le_pow_right (by omega) (by omega)
  have h2 : x * 2 ^ (7 * k) ≤ 127 * 2 ^ 56 := Nat.mul_le_mul (by omega) h1
  rw [u64_or_nat u _ (by omega) (by omega), Nat.or_comm, nat_join (7 * k) _ _ (Nat.mul_mod_left _ _) hu, Nat.add_comm]

theorem shl_num (c k : Nat) (hc : c < 256) (hk : k ≤ 8) : Op.shift .shl .u64 (IntKind.u64.wrap (bits .and .u8 (c : Int) 127)) .i64 (IntKind.i64.wrap (7 * (k : Int))) = pure (.int .u64 ((c % 128 * 2 ^ (7 * k) : Nat) : Int)) := by
  have h1 : 2 ^ (7 * k) ≤ 2 ^ 56 := Nat.pow_le_pow_right (by omega) (by omega)
  have h2 : c % 128 * 2 ^ (7 * k) ≤ 127 * 2 ^ 56 := Nat.mul_le_mul (by omega) h1
  have e1 : bits .and .u8 (c : Int) 127 = ((c % 128 : Nat) : Int) := by
    rw [show (127 : Int) = ((127 : Nat) : Int) from rfl, u8_and_nat c 127 hc (by omega), nat_mask7]
  have e2 : IntKind.u64.wrap ((c % 128 : Nat) : Int) = ((c % 128 : Nat) : Int) := by rw [IntKind.wrap_u64]; omega
  have e3 : IntKind.i64.wrap (7 * (k : Int)) = ((7 * k : Nat) : Int) := by rw [w64 (by omega) (by omega)]; omega
  rw [e1, e2, e3, shift_shl .u64 .i64 _ _ (by omega) (by simp [IntKind.bits]; omega), Int.toNat_natCast]
  congr 2
  rw [show ((c % 128 : Nat) : Int) * 2 ^ (7 * k) = ((c % 128 * 2 ^ (7 * k) : Nat) : Int) by simp, IntKind.wrap_u64]
  omega
theorem num_spec (g : Nat) (l : List UInt8) (bad : Bool) (F : Nat → Prop) (w : World) (h : Rdr w g l bad F) (hl : l.length ≤ 140737488355328) :
    Cal Tryd.prog 42 #[.pointer (some ⟨g, 0, none⟩)] w fun v w' => v = i64 (numL l bad).1 ∧ Rdr w' g (numL l bad).2.1 (numL l bad).2.2 F ∧ Kp (At g) w w' := by
  obtain ⟨A, c, hb, hc, hcm, hr, ho, hbad, hF, hFl⟩ := id h
  have h0 := hb.cell 0
  have f0 := hb.frozen 0
  refine enter Tryd.mixed Tryd.func42 rfl (by kernel_rfl) ?_
  simp -dsimp [go_sem, h0]
  refine loop [2, 3, 4, 5, 13, 14, 15, 16, 17, 18, 19, 20, 21, 22, 23, 24, 25, 26, 27, 28, 29, 30, 31, 32, 33, 34, 35, 36, 37, 38, 39, 40, 41, 42, 43, 44, 45, 46, 47, 48, 49, 50, 51, 52] (by kernel_rfl)
    (fun f w' => ∃ k u : Nat, k ≤ l.length ∧ k ≤ 9 ∧ f 13 = i64 k ∧ f 3 = .int .u64 u ∧ u < 2 ^ (7 * k) ∧ takeN k u (l.drop k) = takeN 0 0 l ∧ w = w') (fun f _ => l.length - (intOf (f 13)).toNat) ⟨0, 0, by simp [upd]⟩ ?_
  rintro f w' ⟨k, u, hk, hk9, f13, f3, hu, ht, rfl⟩
  simp -dsimp [go_sem, f13, f3]
  refine cond_d (fun hlt => ?_) (fun hlt => ?_)
  · have hlt : k < l.length := by omega
    obtain ⟨b, o, rfl, hcell⟩ := hr k (u8 l[k]) (by simp [hlt])
    have hd : l.drop k = l[k] :: l.drop (k + 1) := List.drop_eq_getElem_cons hlt
    by_cases h9 : 9 ≤ k
    · have h9i : (9 : Int) ≤ (k : Int) := by omega
      have e : numL l bad = (0, [], true) := by
        have : takeN 0 0 l = none := by rw [← ht, hd]; simp [takeN, h9]
        simp [numL, this]
      simp -dsimp [go_sem, f13, f3, hlt, hcell, h9i]
      rw [e]
      refine call (bad_spec g l bad F w h) ?_
      rintro v w' ⟨rfl, hR, hkp⟩
      simp -dsimp [go_sem]
      exact ⟨hR, hkp⟩
    · have h9i : ¬ (9 : Int) ≤ (k : Int) := by omega
      by_cases hz : 0 < k ∧ l[k].toNat = 0
      · have hki : 0 < k := hz.1
        have hz0 : (l[k].toNat : Int) = 0 := by omega
        have e : numL l bad = (0, [], true) := by
          have : takeN 0 0 l = none := by rw [← ht, hd]; simp [takeN, hz]
          simp [numL, this]
        simp -dsimp [go_sem, f13, f3, hlt, hcell, h9i, hki, hz0]
        rw [e]
        refine call (bad_spec g l bad F w h) ?_
        rintro v w' ⟨rfl, hR, hkp⟩
        simp -dsimp [go_sem]
        exact ⟨hR, hkp⟩
      · obtain ⟨x, hx⟩ : ∃ x, x = l[k].toNat % 128 * 2 ^ (7 * k) := ⟨_, rfl⟩
        obtain ⟨y, hy⟩ : ∃ y, y = u + x := ⟨_, rfl⟩
        have hsh := shl_num l[k].toNat k (UInt8.toNat_lt _) (by omega)
        have hor := or_join k u (l[k].toNat % 128) (by omega) hu (by omega)
        rw [← hx] at hsh hor
        rw [← hy] at hor
        have hy2 : y < 2 ^ (7 * (k + 1)) := by
          have h1 : x ≤ 127 * 2 ^ (7 * k) := by rw [hx]; exact Nat.mul_le_mul_right _ (by omega)
          have h2 : 2 ^ (7 * (k + 1)) = 128 * 2 ^ (7 * k) := by rw [show 7 * (k + 1) = 7 + 7 * k by omega, Nat.pow_add]
          omega
        have hy3 : y < 9223372036854775808 := Nat.lt_of_lt_of_le hy2 (Nat.pow_le_pow_right (by omega) (by omega : 7 * (k + 1) ≤ 63))
        by_cases hk0 : 0 < k
        · have hcz : ((l[k].toNat : Int) == 0) = false := by simp; omega
          simp -dsimp [go_sem, f13, f3, hlt, hcell, h9i, hk0, hcz, hsh, hor]
          refine cond_d (fun hs => ?_) (fun hs => ?_)
          · have hs : l[k].toNat < 128 := by omega
            simp -dsimp [go_sem]
            refine cond_d (fun hbig => ?_) (fun hbig => ?_)
            · have hbig : 4611686018427387904 < y := by omega
              have e : numL l bad = (0, [], true) := by
                have : takeN 0 0 l = none := by
                  rw [← ht, hd]
                  simp only [takeN]
                  rw [if_neg (by omega), if_pos hs, if_pos (by omega)]
                simp [numL, this]
              simp -dsimp [go_sem]
              rw [e]
              refine call (bad_spec g l bad F w h) ?_
              rintro v w' ⟨rfl, hR, hkp⟩
              simp -dsimp [go_sem]
              exact ⟨hR, hkp⟩
            · have hbig : y ≤ 4611686018427387904 := by omega
              have e : numL l bad = (y, l.drop (k + 1), bad) := by
                have : takeN 0 0 l = some (y, l.drop (k + 1)) := by
                  rw [← ht, hd]
                  simp only [takeN]
                  rw [if_neg (by omega), if_pos hs, if_neg (by omega), ← hx, ← hy]
                simp [numL, this]
              rw [e]
              have hk1 : IntKind.i64.wrap ((k : Int) + 1) = ((k + 1 : Nat) : Int) := w64 (by omega) (by omega)
              have hy4 : IntKind.i64.wrap (y : Int) = y := w64 (by omega) (by omega)
              obtain ⟨k1, hk1'⟩ : ∃ k1, k1 = k + 1 := ⟨_, rfl⟩
              rw [← hk1'] at hk1 ⊢
              have hkl : k1 ≤ l.length := by omega
              simp -dsimp [go_sem, h0, f0, hk1, hkl, hy4]
              have hR := rdr_cut hb hc hcm hr ho hbad hF hFl k1 hkl
              simp only [cutA, Option.map_some, Addr.add_lit] at hR
              exact ⟨hR, (Kp.refl _ _).setCell_at _ _⟩
          · have hs : ¬ l[k].toNat < 128 := by omega
            have hk1 : IntKind.i64.wrap ((k : Int) + 1) = ((k + 1 : Nat) : Int) := w64 (by omega) (by omega)
            obtain ⟨k1, hk1'⟩ : ∃ k1, k1 = k + 1 := ⟨_, rfl⟩
            rw [← hk1'] at hk1
            simp -dsimp [go_sem, f13, hk1]
            subst hk1'
            refine ⟨⟨k + 1, by omega, by omega, rfl, y, rfl, hy2, ?_⟩, ?_⟩
            · rw [← ht, hd]
              simp only [takeN]
              rw [if_neg (by omega), if_neg hs, ← hx, ← hy]
            · simp [intOf]; omega
        · simp -dsimp [go_sem, f13, f3, hlt, hcell, h9i, hk0, hsh, hor]
          refine cond_d (fun hs => ?_) (fun hs => ?_)
          · have hs : l[k].toNat < 128 := by omega
            simp -dsimp [go_sem]
            refine cond_d (fun hbig => ?_) (fun hbig => ?_)
            · have hbig : 4611686018427387904 < y := by omega
              have e : numL l bad = (0, [], true) := by
                have : takeN 0 0 l = none := by
                  rw [← ht, hd]
                  simp only [takeN]
                  rw [if_neg (by omega), if_pos hs, if_pos (by omega)]
                simp [numL, this]
              simp -dsimp [go_sem]
              rw [e]
              refine call (bad_spec g l bad F w h) ?_
              rintro v w' ⟨rfl, hR, hkp⟩
              simp -dsimp [go_sem]
              exact ⟨hR, hkp⟩
            · have hbig : y ≤ 4611686018427387904 := by omega
              have e : numL l bad = (y, l.drop (k + 1), bad) := by
                have : takeN 0 0 l = some (y, l.drop (k + 1)) := by
                  rw [← ht, hd]
                  simp only [takeN]
                  rw [if_neg (by omega), if_pos hs, if_neg (by omega), ← hx, ← hy]
                simp [numL, this]
              rw [e]
              have hk1 : IntKind.i64.wrap ((k : Int) + 1) = ((k + 1 : Nat) : Int) := w64 (by omega) (by omega)
              have hy4 : IntKind.i64.wrap (y : Int) = y := w64 (by omega) (by omega)
              obtain ⟨k1, hk1'⟩ : ∃ k1, k1 = k + 1 := ⟨_, rfl⟩
              rw [← hk1'] at hk1 ⊢
              have hkl : k1 ≤ l.length := by omega
              simp -dsimp [go_sem, h0, f0, hk1, hkl, hy4]
              have hR := rdr_cut hb hc hcm hr ho hbad hF hFl k1 hkl
              simp only [cutA, Option.map_some, Addr.add_lit] at hR
              exact ⟨hR, (Kp.refl _ _).setCell_at _ _⟩
          · have hs : ¬ l[k].toNat < 128 := by omega
            have hk1 : IntKind.i64.wrap ((k : Int) + 1) = ((k + 1 : Nat) : Int) := w64 (by omega) (by omega)
            obtain ⟨k1, hk1'⟩ : ∃ k1, k1 = k + 1 := ⟨_, rfl⟩
            rw [← hk1'] at hk1
            simp -dsimp [go_sem, f13, hk1]
            subst hk1'
            refine ⟨⟨k + 1, by omega, by omega, rfl, y, rfl, hy2, ?_⟩, ?_⟩
            · rw [← ht, hd]
              simp only [takeN]
              rw [if_neg (by omega), if_neg hs, ← hx, ← hy]
            · simp [intOf]; omega
  · have e : numL l bad = (0, [], true) := by
      have : takeN 0 0 l = none := by rw [← ht, List.drop_of_length_le (by omega)]; rfl
      simp [numL, this]
    simp -dsimp [go_sem]
    rw [e]
    refine call (bad_spec g l bad F w h) ?_
    rintro v w' ⟨rfl, hR, hkp⟩
    simp -dsimp [go_sem]
    exact ⟨hR, hkp⟩

end Go.Proofs.YtindfpaahlijeaaDoor
