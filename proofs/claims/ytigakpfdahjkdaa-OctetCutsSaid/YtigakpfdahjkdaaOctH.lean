/-
  OctetNums walked: any numbers as bytes, and back. By the session itself.
-/
import Derived.Test.YtigakpfdahjkdaaOctG
namespace Go.Proofs.Ytigakpfdahjkdaa
set_option linter.unusedSimpArgs false
set_option linter.unusedVariables false
open Go.Vc Go.RowKit

theorem takeN_numB : ∀ (n i u : Nat) (rest : List UInt8), i + (numB n).length ≤ 9 → (0 < i → 0 < n) → u + n * 2 ^ (7 * i) ≤ 4611686018427387904 → takeN i u (numB n ++ rest) = some (u + n * 2 ^ (7 * i), rest) := by
  intro n
  induction n using Nat.strongRecOn with
  | _ n ih =>
    intro i u rest hi h0 hu
    by_cases h : n < 128
    · rw [numB_small h] at hi ⊢
      have e : (UInt8.ofNat n).toNat = n := by simp; omega
      have e2 : n % 128 = n := by omega
      simp only [List.cons_append, List.nil_append, takeN, e, e2]
      rw [if_neg (by simp at hi; omega), if_pos h, if_neg (by omega)]
    · rw [numB_big h] at hi ⊢
      have e : (UInt8.ofNat (n % 128 + 128)).toNat = n % 128 + 128 := by simp; omega
      have e2 : (n % 128 + 128) % 128 = n % 128 := by omega
      have hs : n % 128 * 2 ^ (7 * i) + n / 128 * 2 ^ (7 * (i + 1)) = n * 2 ^ (7 * i) := by
        rw [show 7 * (i + 1) = 7 * i + 7 by omega, Nat.pow_add, show (2 : Nat) ^ 7 = 128 from rfl, Nat.mul_comm (2 ^ (7 * i)) 128, ← Nat.mul_assoc, ← Nat.add_mul, Nat.mod_add_div']
      rw [List.length_cons] at hi
      simp only [List.cons_append, takeN, e, e2]
      rw [if_neg (by omega), if_neg (by omega), ih (n / 128) (by omega) (i + 1) _ rest (by omega) (by omega) (by omega), Nat.add_assoc, hs]
theorem numL_numB (n : Nat) (rest : List UInt8) (bad : Bool) (h : n ≤ 4611686018427387904) : numL (numB n ++ rest) bad = (n, rest, bad) := by
  have := takeN_numB n 0 0 rest (by have := numB_len9 h; omega) (by omega) (by simpa using h)
  rw [show 0 + n * 2 ^ (7 * 0) = n by simp] at this
  unfold numL
  rw [this]

theorem nums_law (vs : List Int) (B : Option Addr) (d : Nat) (w : World) (hr : Rd w B (vs.map i64)) (hw : ∀ v ∈ vs, -9223372036854775808 ≤ v ∧ v ≤ 9223372036854775807) :
    Cal Try.prog 5 #[.slice B vs.length d] w fun u w' => u = .bool true ∧ Nw w w' := by
  refine enter Try.mixed Try.func5 rfl (by kernel_rfl) ?_
  simp -dsimp [go_sem]
  refine cond_d (fun hl => ?_) (fun hl => ?_)
  · simp -dsimp [go_sem]
    exact Kp.refl _ _
  · have hl : vs.length ≤ 500 := by omega
    have hlen := numsB_len vs
    simp -dsimp [go_sem]
    have k0 : Nw w (w.alloc (.cells #[.slice none 0 0] 36)) := (Kp.refl _ _).alloc _
    refine call (wNums_spec w.heap.size [] vs (At w.heap.size) B d _ (Wr.new w) (hr.nw k0) (hr.ofl fun i (h : i = _) => by omega) (by simp; omega)) ?_
    rintro v w1 ⟨rfl, F1, hW1, hG1, hK1⟩
    have k1 : Nw w w1 := Nw.at_ k0 hK1 (Nf.at_ (Nat.le_refl _))
    have n1 : Nf w F1 := (Nf.at_ (Nat.le_refl _)).gr hG1 k0.size
    rw [List.nil_append] at hW1
    simp -dsimp [go_sem]
    refine call (wOut_spec w.heap.size _ F1 w1 hW1 (by omega)) ?_
    rintro v w2 ⟨⟨A2, c2, rfl, ho2, hA2⟩, hk2⟩
    have k2 := k1.nw hk2
    simp -dsimp [go_sem]
    refine call (refNums_spec vs B d w2 (hr.nw k2) hw (by omega)) ?_
    rintro v w3 ⟨⟨A3, c3, rfl, ho3, hA3⟩, hk3⟩
    have k3 := k2.nw hk3
    simp -dsimp [go_sem]
    refine call (same_spec A2 A3 c2 c3 _ _ _ (ho2.rd.nw hk3) ho3.rd (by omega)) ?_
    rintro v w4 ⟨rfl, hk4⟩
    have k4 := k3.nw hk4
    simp -dsimp [go_sem]
    refine call (newReader_spec A2 c2 (numsB vs) w4 ((ho2.rd.nw hk3).nw hk4) (by omega)) ?_
    rintro v w5 ⟨g, rfl, hg, ⟨F, hR, hF⟩, hk5⟩
    have k5 := k4.nw hk5
    simp -dsimp [go_sem]
    refine call (spoil_spec (numsB vs) w5 A2 c2 (((ho2.nw hk3).nw hk4).nw hk5) (by omega)) ?_
    rintro v w6 ⟨rfl, hk6⟩
    have hoff : ∀ i, F1 i → ¬ blk A2 i := fun i hi hb => by
      obtain ⟨a, rfl, rfl⟩ := blk_of hb
      have := hA2 a rfl
      have := Wr.lt_ hW1 _ hi
      omega
    have k6 : Nw w w6 := k5.trans hk6 fun i hi hb => by
      obtain ⟨a, rfl, rfl⟩ := blk_of hb
      have := hA2 a rfl
      have := k1.size
      omega
    have hW6 : Wr w6 w.heap.size (numsB vs) F1 := Wr.kp_ ((((Wr.kp_ hW1 hk2 fun _ _ h => h).kp_ hk3 fun _ _ h => h).kp_ hk4 fun _ _ h => h).kp_ hk5 fun _ _ h => h) hk6 hoff
    simp -dsimp [go_sem]
    refine call (wOut_spec w.heap.size _ F1 w6 hW6 (by omega)) ?_
    rintro v w7 ⟨⟨A7, c7, rfl, ho7, hA7⟩, hk7⟩
    simp -dsimp [go_sem]
    refine call (newReader_spec A7 c7 (numsB vs) w7 ho7.rd (by omega)) ?_
    rintro v w8 ⟨g8, rfl, hg8, ⟨F8, hR8, hF8⟩, hk8⟩
    have k8 := (k6.nw hk7).nw hk8
    simp -dsimp [go_sem]
    refine loop [2, 6, 26, 27, 28, 29, 30, 31, 32, 33, 34, 35, 36, 37, 38, 39, 40] (by kernel_rfl) (fun f w' => Box1 (fun a w' => ∃ i : Nat, i ≤ vs.length ∧ a = i64 i ∧ Rdr w' g8 (numsB (vs.drop i)) false F8 ∧ Nw w w') (f 6) w')
      (fun f _ => vs.length - (intOf (f 6)).toNat) ⟨0, Nat.zero_le _, rfl, hR8, k8⟩ ?_
    rintro f w' ⟨i, hi, f6, hR, hK⟩
    simp -dsimp [go_sem, f6]
    refine cond_d (fun hlt => ?_) (fun hlt => ?_)
    · have hlt : i < vs.length := by omega
      obtain ⟨b, o, rfl, hcell⟩ := hr i (i64 vs[i]) (by simp [hlt])
      have hcell' := hK.cell_some hcell fun h => h
      simp -dsimp [go_sem]
      refine draw (.take 0 (.take 2 (.take 3 (.take 4 (.take 5 (.take 6 (.take 7 (.alt 1 (.take 8 .done) .stop)))))))) (by kernel_rfl) (fun w1 => w1.cell? ⟨b, o + i, none⟩ = some (i64 vs[i])) (by simpa using hcell') ?_
      simp -dsimp [go_sem, f6, hlt, hcell']
      have hdrop : numsB (vs.drop i) = numB (clampN vs[i]) ++ numsB (vs.drop (i + 1)) := by
        unfold numsB
        rw [List.drop_eq_getElem_cons hlt, List.flatMap_cons]
      have hld : (numsB (vs.drop i)).length ≤ 9 * vs.length := by
        have := numsB_len (vs.drop i)
        rw [List.length_drop] at this
        omega
      refine ⟨fun w1 h1 => by simp [h1], ?_⟩
      refine call (num_spec g8 _ false F8 w'.drew (hR.nw ((Kp.refl _ _).drew)) (by omega)) ?_
      rintro v w9 ⟨rfl, hR9, hk9⟩
      rw [hdrop, numL_numB _ _ _ (clampN_le _)] at hR9
      rw [hdrop, numL_numB _ _ _ (clampN_le _)]
      have hcl : max 0 (min vs[i] 4611686018427387904) = (clampN vs[i] : Int) := by unfold clampN; omega
      have hg8' : w.heap.size ≤ g8 := by
        have := (k6.nw hk7).size
        omega
      have hne : ¬ o + i = g8 ∨ True := .inr trivial
      have hb8 : b ≠ g8 := by
        have := World.block_lt_of_cell? w _ hcell
        simp at this
        omega
      refine ⟨(hk9.cell (p := ⟨b, o + i, none⟩) (World.block_lt_of_cell? _ _ hcell') hb8).trans hcell', ?_⟩
      obtain ⟨n, hn⟩ : ∃ n, n = clampN vs[i] := ⟨_, rfl⟩
      rw [← hn] at hcl
      have hk1 : IntKind.i64.wrap ((i : Int) + 1) = ((i + 1 : Nat) : Int) := w64 (by omega) (by omega)
      obtain ⟨k1, hk1'⟩ : ∃ k1, k1 = i + 1 := ⟨_, rfl⟩
      rw [← hk1'] at hk1 hR9
      simp -dsimp [go_sem, hcl, ← hn, f6, hk1]
      exact ⟨⟨k1, by omega, rfl, hR9, Nw.at_ hK.drew hk9 (Nf.at_ hg8')⟩, by simp [intOf]; omega⟩
    · obtain rfl : i = vs.length := by omega
      simp -dsimp [go_sem]
      rw [List.drop_length] at hR
      refine call (good_spec g8 _ false F8 w' hR) ?_
      rintro v w9 ⟨rfl, rfl⟩
      simp -dsimp [go_sem]
      refine call (whole_spec g8 _ false F8 w' hR) ?_
      rintro v w10 ⟨rfl, rfl⟩
      have he : (numsB []).isEmpty = true := rfl
      simp -dsimp [go_sem, he]
      refine call (known_spec w') ?_
      rintro v w11 ⟨rfl, hk⟩
      simp -dsimp [go_sem]
      exact hK.nw hk
end Go.Proofs.Ytigakpfdahjkdaa
