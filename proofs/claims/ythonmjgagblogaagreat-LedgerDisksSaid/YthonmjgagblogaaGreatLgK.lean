/-
  The ledger's statements: known; LedgerOfNothing walked. By the session itself.
-/
import Derived.Test.YthonmjgagblogaaGreatLgP
namespace Go.Proofs.YthonmjgagblogaaGreat
set_option linter.unusedSimpArgs false
set_option linter.unusedVariables false
set_option maxRecDepth 100000
set_option maxHeartbeats 2000000
open Go.Vc Go.RowKit

/-- An append of a row of the program's own. -/
theorem own_off {w : World} : ∀ k, blk (some ⟨w.heap.size, 0, none⟩) k → w.heap.size ≤ k := fun k hk => by
  have : k = w.heap.size := hk
  omega
theorem lgknown_spec (w : World) : Cal Tryz.prog 9 #[] w fun v w' => v = .bool true ∧ Nw w w' := by
  refine enter Tryz.mixed Tryz.func9 rfl (by kernel_rfl) ?_
  simp -dsimp [go_sem]
  refine call (new_spec 65536 w) ?_
  rintro v w1 (⟨h, _⟩ | ⟨_, _, g, F, rfl, hD, nF, hk1⟩)
  · omega
  obtain ⟨D0, hD0⟩ : ∃ D0, D0 = (⟨Int.toNat 65536, [], none⟩ : Dsk) := ⟨_, rfl⟩
  rw [← hD0] at hD
  have eo : opn D0 [97] = (D0, 0, Led.zero) := opn_none (by rw [hD0]; rfl) (by rw [hD0]; rfl) (by rw [hD0]; rfl)
  simp -dsimp [go_sem]
  refine call (open_spec g [97] D0 F w1 hD (by simp) (by simp)) ?_
  rw [eo]
  rintro v w2 hO
  obtain ⟨l, rfl, T2⟩ := Lw.of_open hO rfl (fun k hk => nF k hk) hk1
  have f0 : Free D0 0 0 := ⟨T2.ok, by rw [hD0], by rw [hD0]; simp [Dsk.used, sumv], by rw [hD0]; simp⟩
  have hr0 : D0.room = 65536 := by rw [hD0]; rfl
  obtain ⟨D1, e1, f1, r1, _, o1⟩ := lApp_out (p := [97]) (L := Led.zero) (b := [120]) f0 (by simp) rfl (by simp [Led.last, Led.zero]) (by simp) (by rw [hr0]; simp) (by omega)
  simp -dsimp [go_sem]
  refine conv_const rfl rfl (Blk.new w2 _ _) ?_
  intro wc hkc hhc
  have kc : Nw w2 wc := Nw.at_ ((Kp.refl _ _).alloc _) hkc (Nf.at_ (Nat.le_refl _))
  simp -dsimp [go_sem]
  refine call (T2.append (by simp) kc [120] _ 1 (Rd.of_heap hhc) (.inr own_off) (by simp) (by simp)) ?_
  simp only
  rw [e1]
  rintro v w3 ⟨rfl, T3⟩
  simp only at T3
  have hs1 : tLook D1.fs (shadow (imgN [97])) = none := by rw [o1 _ (log_sh _).symm, hD0]; rfl
  obtain ⟨D2, e2, f2, r2, _, _, _⟩ := lWrite_out (p := [97]) (L := ⟨0, [], [[120]], false⟩) (n := 1) (b := [121]) f1 (by simp) rfl (by simp [Led.last]) (by omega) (by simp) hs1 (by rw [r1, hr0]; simp) (by omega)
  simp -dsimp [go_sem]
  refine conv_const rfl rfl (Blk.new w3 _ _) ?_
  intro wc hkc hhc
  have kc : Nw w3 wc := Nw.at_ ((Kp.refl _ _).alloc _) hkc (Nf.at_ (Nat.le_refl _))
  simp -dsimp [go_sem]
  refine call (T3.write (by simp) kc 1 [121] _ 1 (Rd.of_heap hhc) (.inr own_off) (by simp) (by simp)) ?_
  have e2' : lWrite D1 [97] { Led.zero with ents := Led.zero.ents ++ [[120]] } 1 [121] = (D2, ⟨1, [121], [], false⟩, 0) := e2
  rw [e2']
  rintro v w4 ⟨rfl, T4⟩
  simp only at T4
  obtain ⟨D3, e3, f3, r3, _, o3⟩ := lApp_out (p := [97]) (L := ⟨1, [121], [], false⟩) (b := [122]) f2 (by simp) rfl (by simp [Led.last]) (by simp) (by rw [r2, r1, hr0]; simp) (by omega)
  simp -dsimp [go_sem]
  refine conv_const rfl rfl (Blk.new w4 _ _) ?_
  intro wc hkc hhc
  have kc : Nw w4 wc := Nw.at_ ((Kp.refl _ _).alloc _) hkc (Nf.at_ (Nat.le_refl _))
  simp -dsimp [go_sem]
  refine call (T4.append (by simp) kc [122] _ 1 (Rd.of_heap hhc) (.inr own_off) (by simp) (by simp)) ?_
  rw [e3]
  rintro v w5 ⟨rfl, T5⟩
  simp only at T5
  have hl5 : (⟨1, [121], [], false⟩ : Led).last + 1 = 2 := rfl
  rw [hl5]
  simp -dsimp [go_sem]
  refine call T5.base_ ?_
  rintro v w6 ⟨hk6, u, rfl, hB6⟩
  obtain ⟨A6, c6, rfl, ho6, hA6⟩ := id hB6
  have T6 := T5.nw hk6
  simp only at ho6 ⊢
  have hcv := conv_str (P := Tryz.prog) (t := 22) (s := 9) (e := 5) (w := w6) (c := c6) (by kernel_rfl) (by kernel_rfl) (by kernel_rfl) ho6.rd
  have hcv' : convR Tryz.prog 22 9 (.slice A6 1 c6) w6 = .ok (.string ⟨#[121]⟩) w6 := hcv
  simp -dsimp [go_sem, hcv']
  refine call T6.last ?_
  rintro v w7 ⟨rfl, hk7⟩
  have hl7 : ({ (⟨1, [121], [], false⟩ : Led) with ents := ([] : List (List UInt8)) ++ [[122]] } : Led).last = 2 := rfl
  rw [hl7]
  simp -dsimp [go_sem]
  exact T6.on.nw hk7
end Go.Proofs.YthonmjgagblogaaGreat
