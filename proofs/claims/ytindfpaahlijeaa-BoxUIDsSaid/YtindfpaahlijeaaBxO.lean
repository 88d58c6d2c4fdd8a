/-
  BoxUIDs walked. By the session itself.
-/
import Derived.Test.YtindfpaahlijeaaBxN
namespace Go.Proofs.Ytindfpaahlijeaa
set_option linter.unusedSimpArgs false
set_option linter.unusedVariables false
set_option maxRecDepth 100000
set_option maxHeartbeats 2000000
open Go.Vc Go.RowKit

theorem nameA : nameOk ⟨#[97]⟩ = true := by decide
theorem uids_law (A : Option Addr) (c : Nat) (q : AQ) (w : World) (hr : Rd w A (aq q)) (hG : ∀ p ∈ q, ActG w p) (hl : q.length ≤ 9223372036854775807) :
    Cal Try.prog 3 #[.slice A q.length c] w fun v' w' => v' = .bool true ∧ Nw w w' := by
  refine enter Try.mixed Try.func3 rfl (by kernel_rfl) ?_
  simp -dsimp [go_sem]
  refine call (long_spec A c q w hr hG hl) ?_
  rintro v0 w1 ⟨⟨r, rfl, hlong⟩, hk1⟩
  cases r with
  | true =>
    simp -dsimp [go_sem]
    exact hk1
  | false =>
    have hlong := hlong rfl
    simp -dsimp [go_sem]
    refine call (new_spec ⟨#[97]⟩ 1 w1) ?_
    rintro v w2 ⟨rfl, hk2⟩
    have ka : Nw w2 (w2.alloc (.cells #[.string ⟨#[97]⟩, i64 1, i64 1, .slice none 0 0] 26)) := (Kp.refl _ _).alloc _
    have hy : Blk (w2.alloc (.cells #[.string ⟨#[97]⟩, i64 1, i64 1, .slice none 0 0] 26)) w2.heap.size 26 #[.string ⟨#[97]⟩, i64 1, i64 1, .slice none 0 0] := Blk.new _ _ _
    obtain ⟨y, hyw⟩ : ∃ y, y = w2.heap.size := ⟨_, rfl⟩
    have n3 := (hk1.nw hk2).nw ka
    have hyf : w.heap.size ≤ y := by rw [hyw]; exact (hk1.nw hk2).size
    simp -dsimp [go_sem]
    rw [← hyw] at hy ⊢
    generalize w2.alloc (.cells #[.string ⟨#[97]⟩, i64 1, i64 1, .slice none 0 0] 26) = w3 at *
    refine loop [2, 4, 5, 6, 7, 8, 12, 13, 14, 15, 16, 17, 18, 19, 20, 21, 22, 23, 24, 25, 26, 27, 28, 29, 30, 31, 32, 33, 34, 35, 36, 37, 38, 39, 40, 41, 42, 43, 44, 45, 46, 47, 48, 49, 50, 51, 52, 53, 54, 55, 56, 57, 58, 59, 60, 61, 62, 63, 64, 65, 66, 67, 68, 69, 70, 71, 72, 73, 74, 75, 76, 77, 78, 79, 80, 81, 82, 83, 84, 85, 86, 87, 88, 89, 90, 91] (by kernel_rfl)
      (fun f w' => Box2 (fun a t w' => ∃ i : Nat, ∃ nx : Int, ∃ L ln A c, ln = L.length ∧ a = i64 i ∧ i ≤ q.length ∧ i ≤ 60 ∧ t = i64 nx ∧ 0 ≤ nx ∧ nx ≤ i ∧ Blk w' y 26 #[.string ⟨#[97]⟩, i64 1, i64 (nx + 1), .slice A ln c] ∧ OB w' (.agg #[.string ⟨#[97]⟩, i64 1, i64 (nx + 1), .slice A ln c]) ⟨⟨#[97]⟩, 1, nx + 1, L⟩ (y + 1) ∧ IsB ⟨⟨#[97]⟩, 1, nx + 1, L⟩ ∧ Nw w w') (f 5) (f 4) w') (fun f _ => q.length - (intOf (f 5)).toNat)
      ⟨0, 0, [], 0, none, 0, rfl, rfl, by omega, by omega, rfl, by omega, by omega, hy, ob_new ⟨#[97]⟩ 1 w3 _, IsB.new _ _ (by omega), n3⟩ ?_
    rintro f w4 ⟨i, nx, L, ln, AL, cL, hln, f5, hi, hi60, f4, hx0, hxi, hb4, hO4, hI4, n4⟩
    by_cases hlt : i < q.length
    · by_cases h60 : i < 60
      · have h60' : (i : Int) < 60 := by omega
        have hi1 : IntKind.i64.wrap ((i : Int) + 1) = ((i + 1 : Nat) : Int) := by rw [w64 (by omega) (by omega)]; omega
        obtain ⟨i1, hi1'⟩ : ∃ i1, i1 = i + 1 := ⟨_, rfl⟩
        rw [← hi1'] at hi1
        have hnx1 : IntKind.i64.wrap (nx + 1) = nx + 1 := w64 (by omega) (by omega)
        have hnx2 : IntKind.i64.wrap (nx + 1 + 1) = nx + 1 + 1 := w64 (by omega) (by omega)
        obtain ⟨g, o, rfl, e0, e1, e2, e3, e4, e5⟩ := act_at (hr.nw n4) hlt
        have hpar : ∀ {W : World}, Kp (At y) w4 W → W.cell? ⟨g, o + i * 6 + 4, none⟩ = some q[i].2.1 := fun {W} h => by
          obtain ⟨_, _, e, _, _, _, _, e4', _⟩ := act_at ((hr.nw n4).kp h (hr.ofl fun k (e : k = y) => by omega)) hlt
          cases e
          exact e4'
        obtain ⟨⟨AU, cu, eU, hrU, hcU⟩, ⟨AB, cb, eB, hrB, hoB, hcB⟩, hu, hb, _⟩ := hG _ (List.getElem_mem hlt)
        obtain ⟨hu9, hb9⟩ := hlong i hlt h60
        rw [eU] at e4
        simp only [eU] at hpar
        rw [eB] at e5
        generalize q[i].1 = a at *
        obtain ⟨kd, fl, dt, md, us, bd⟩ := a
        simp only at e0 e1 e2 e3 e4 e5 hrU hcU hrB hoB hcB hu9 hb9
        have hyl := hb4.lt
        have c0 : w4.cell? ⟨y, 0, none⟩ = some (.string ⟨#[97]⟩) := hb4.cell 0
        have c1 : w4.cell? ⟨y, 1, none⟩ = some (i64 1) := hb4.cell 1
        have c2 : w4.cell? ⟨y, 2, none⟩ = some (i64 (nx + 1)) := hb4.cell 2
        have c3 : w4.cell? ⟨y, 3, none⟩ = some (.slice AL ln cL) := hb4.cell 3
        have kD : Nw w4 w4.drew := (Kp.refl _ _).drew
        have d0 := kD.cell_some c0 fun h => h
        have d1 := kD.cell_some c1 fun h => h
        have d2 := kD.cell_some c2 fun h => h
        have d3 := kD.cell_some c3 fun h => h
        have a1 := kD.cell_some e1 fun h => h
        have a2 := kD.cell_some e2 fun h => h
        have a4 := kD.cell_some e4 fun h => h
        have a5 := kD.cell_some e5 fun h => h
        by_cases hk1' : kd = 1
        · subst hk1'
          simp -dsimp [go_sem, f5, hlt, h60', e0]
          refine draw (.take 0 (.take 1 (.take 2 (.take 3 (.take 4 (.take 5 (.take 6 (.take 7 (.take 8 (.take 9 (.take 10 (.take 11 (.take 12 (.take 13 (.take 14 (.take 15 (.alt 16 (.take 17 (.take 18 (.take 19 (.take 20 (.alt 21 (.alt 22 (.take 23 (.take 24 .done)) .stop) .stop))))) (.alt 21 (.alt 16 (.take 17 (.take 18 (.take 19 (.take 20 (.alt 22 (.take 23 (.take 24 .done)) .stop))))) .stop) .stop)))))))))))))))))) (by kernel_rfl) (fun wz => Nw w4 wz) kD ?_
          simp -dsimp [go_sem, f5, hlt, d0, d1, d2, d3, a1, a2, a4, a5]
          repeat refine ⟨fun wz hz => by simp [hz.cell_some c0 fun h => h, hz.cell_some c1 fun h => h, hz.cell_some c2 fun h => h, hz.cell_some c3 fun h => h, hz.cell_some e1 fun h => h, hz.cell_some e2 fun h => h, hz.cell_some e5 fun h => h], ?_⟩
          have hlen4 := hI4.len
          simp only at hlen4
          have hbod : ∀ m ∈ L, m.body.length ≤ 1000000000 := fun m hm => by have := (hI4.all m hm).2.2.2.2; omega
          constructor
          · refine call (add_spec _ ⟨⟨#[97]⟩, 1, nx + 1, L⟩ _ fl dt bd AB cb _ (hO4.rb.nw kD) (by show L.length ≤ _; omega) hbod ((hrB.nw n4).nw kD) (by show _ ≤ nx + 1; omega)) ?_
            rintro v w5 ⟨⟨bv, rfl, hO5⟩, hk5⟩
            have hI5 := hI4.add fl dt bd
            obtain ⟨hnm5, hvl5⟩ := addB_name ⟨⟨#[97]⟩, 1, nx + 1, L⟩ fl dt bd
            have hax := addB_next ⟨⟨#[97]⟩, 1, nx + 1, L⟩ fl dt bd
            generalize addB ⟨⟨#[97]⟩, 1, nx + 1, L⟩ fl dt bd = r at *
            obtain ⟨⟨nm5, vl5, nx5, L5⟩, uid, code⟩ := r
            simp only at hI5 hnm5 hvl5 hax hO5
            subst hnm5; subst hvl5
            obtain ⟨A5, c5, rfl⟩ := hO5.open_
            obtain ⟨l5, hl5⟩ : ∃ l5, l5 = L5.length := ⟨_, rfl⟩
            simp only [← hl5] at hO5 ⊢
            have k45 := Kp.nw kD hk5
            refine ⟨k45, ?_⟩
            simp -dsimp [go_sem]
            refine ⟨k45.alloc _, ?_⟩
            have kt : Nw w5 (w5.alloc (.cells #[.string ⟨#[97]⟩, i64 1, i64 nx5, .slice A5 l5 c5] 26)) := (Kp.refl _ _).alloc _
            have hz6 : Blk (w5.alloc (.cells #[.string ⟨#[97]⟩, i64 1, i64 nx5, .slice A5 l5 c5] 26)) w5.heap.size 26 #[.string ⟨#[97]⟩, i64 1, i64 nx5, .slice A5 l5 c5] := Blk.new _ _ _
            have hsz := k45.size
            have hO6 := (hO5.nw kt).mono (B' := y + 1) (by have := kD.size; omega)
            have k46 := k45.nw kt
            obtain ⟨z, hzw⟩ : ∃ z, z = w5.heap.size := ⟨_, rfl⟩
            rw [← hzw] at hz6 ⊢
            generalize w5.alloc (.cells #[.string ⟨#[97]⟩, i64 1, i64 nx5, .slice A5 l5 c5] 26) = w6 at *
            have hyz : y ≠ z := by omega
            have hzy : z ≠ y := by omega
            refine ⟨k46, ?_⟩
            have hb6 := hb4.nw k46
            have n6 := n4.nw k46
            clear c0 c1 c2 c3 d0 d1 d2 d3 a1 a2 a4 a5
            rcases hax with ⟨rfl, rfl, rfl⟩ | ⟨hcode, hbx⟩
            · have z0 : World.cell? w6 ⟨z, 0, none⟩ = some (.string ⟨#[97]⟩) := Blk.cell hz6 0
              have z1 : World.cell? w6 ⟨z, 1, none⟩ = some (i64 1) := Blk.cell hz6 1
              have z2 : World.cell? w6 ⟨z, 2, none⟩ = some (i64 (nx + 1 + 1)) := Blk.cell hz6 2
              have z3 : World.cell? w6 ⟨z, 3, none⟩ = some (.slice A5 l5 c5) := Blk.cell hz6 3
              have p0 : World.cell? w6 ⟨y, 0, none⟩ = some (.string ⟨#[97]⟩) := Blk.cell hb6 0
              have p1 : World.cell? w6 ⟨y, 1, none⟩ = some (i64 1) := Blk.cell hb6 1
              have p2 : World.cell? w6 ⟨y, 2, none⟩ = some (i64 (nx + 1)) := Blk.cell hb6 2
              have p3 : World.cell? w6 ⟨y, 3, none⟩ = some (.slice AL ln cL) := Blk.cell hb6 3
              have f0 := Blk.frozen hb6 0
              have f1 := Blk.frozen hb6 1
              have f2 := Blk.frozen hb6 2
              have f3 := Blk.frozen hb6 3
              simp -dsimp [go_sem, f5, f4, hnx1, z0, z1, z2, z3, p0, p1, p2, p3, f0, f1, f2, f3]
              have hb7 := blk_set4 hb6 (.string ⟨#[97]⟩) (i64 1) (i64 (nx + 1 + 1)) (.slice A5 l5 c5)
              have ks7 := kp_set4 w6 y (.string ⟨#[97]⟩) (i64 1) (i64 (nx + 1 + 1)) (.slice A5 l5 c5)
              have hO7 := (OB.kp hO6 ks7 fun k hk _ (e : k = y) => by omega).mono (B' := y + 1) (by omega)
              have n7 := Kp.at_ n6 ks7 fun k (e : k = y) => by omega
              generalize (((World.setCell w6 ⟨y, 0, none⟩ (.string ⟨#[97]⟩)).setCell ⟨y, 1, none⟩ (i64 1)).setCell ⟨y, 2, none⟩ (i64 (nx + 1 + 1))).setCell ⟨y, 3, none⟩ (.slice A5 l5 c5) = w7 at *
              have r0 : World.cell? w7 ⟨y, 0, none⟩ = some (.string ⟨#[97]⟩) := Blk.cell hb7 0
              have r1 : World.cell? w7 ⟨y, 1, none⟩ = some (i64 1) := Blk.cell hb7 1
              have r2 : World.cell? w7 ⟨y, 2, none⟩ = some (i64 ((nx + 1) + 1)) := Blk.cell hb7 2
              have r3 : World.cell? w7 ⟨y, 3, none⟩ = some (.slice A5 l5 c5) := Blk.cell hb7 3
              try simp -dsimp [go_sem, f5, r0, r1, r2, r3]
              refine call (ris_spec _ ⟨⟨#[97]⟩, 1, (nx + 1) + 1, L5⟩ _ _ (OB.rb hO7) (by show (⟨#[97]⟩ : ByteArray).size ≤ 9223372036854775807; decide) (by have := IsB.len hI5; simp only at this ⊢; omega)) ?_
              rintro vq wq ⟨rfl, hkq⟩
              rw [IsB.is hI5 nameA]
              have r2 : wq.cell? ⟨y, 2, none⟩ = some (i64 ((nx + 1) + 1)) := (Blk.nw hb7 hkq).cell 2
              simp -dsimp [go_sem, f5, f4, r2, hi1, hnx1, hnx2]
              exact ⟨⟨i1, (nx + 1), L5, l5, A5, c5, hl5, rfl, by omega, by omega, rfl, by omega, by omega, Blk.nw hb7 hkq, OB.nw hO7 hkq, hI5, Kp.nw n7 hkq⟩, by simp [intOf]; omega⟩
            · have hcode' : (code == 0) = false := by simpa using hcode
              have hcode2 : (code != 0) = true := by simpa using hcode
              injection hbx with _ _ hnx' hL'
              subst hnx'; subst hL'
              have z0 : World.cell? w6 ⟨z, 0, none⟩ = some (.string ⟨#[97]⟩) := Blk.cell hz6 0
              have z1 : World.cell? w6 ⟨z, 1, none⟩ = some (i64 1) := Blk.cell hz6 1
              have z2 : World.cell? w6 ⟨z, 2, none⟩ = some (i64 (nx + 1)) := Blk.cell hz6 2
              have z3 : World.cell? w6 ⟨z, 3, none⟩ = some (.slice A5 l5 c5) := Blk.cell hz6 3
              have p0 : World.cell? w6 ⟨y, 0, none⟩ = some (.string ⟨#[97]⟩) := Blk.cell hb6 0
              have p1 : World.cell? w6 ⟨y, 1, none⟩ = some (i64 1) := Blk.cell hb6 1
              have p2 : World.cell? w6 ⟨y, 2, none⟩ = some (i64 (nx + 1)) := Blk.cell hb6 2
              have p3 : World.cell? w6 ⟨y, 3, none⟩ = some (.slice AL ln cL) := Blk.cell hb6 3
              simp -dsimp [go_sem, f5, f4, hcode', hcode2, z0, z1, z2, z3, p0, p1, p2, p3]
              refine call (rsame_spec _ _ ⟨⟨#[97]⟩, 1, nx + 1, L5⟩ ⟨⟨#[97]⟩, 1, nx + 1, L5⟩ _ _ _ hO6.rb (hO4.rb.nw k46) (by have := hI4.len; simp only at this ⊢; omega) (by have := hI4.len; simp only at this ⊢; omega)) ?_
              rintro vs w8 ⟨rfl, hk8⟩
              rw [sameB_self]
              have hz8 := hz6.nw hk8
              have hb8 := hb6.nw hk8
              have hO8 := hO6.nw hk8
              have n8 := n6.nw hk8
              clear z0 z1 z2 z3 p0 p1 p2 p3
              have z0 : World.cell? w8 ⟨z, 0, none⟩ = some (.string ⟨#[97]⟩) := Blk.cell hz8 0
              have z1 : World.cell? w8 ⟨z, 1, none⟩ = some (i64 1) := Blk.cell hz8 1
              have z2 : World.cell? w8 ⟨z, 2, none⟩ = some (i64 (nx + 1)) := Blk.cell hz8 2
              have z3 : World.cell? w8 ⟨z, 3, none⟩ = some (.slice A5 l5 c5) := Blk.cell hz8 3
              have p0 : World.cell? w8 ⟨y, 0, none⟩ = some (.string ⟨#[97]⟩) := Blk.cell hb8 0
              have p1 : World.cell? w8 ⟨y, 1, none⟩ = some (i64 1) := Blk.cell hb8 1
              have p2 : World.cell? w8 ⟨y, 2, none⟩ = some (i64 (nx + 1)) := Blk.cell hb8 2
              have p3 : World.cell? w8 ⟨y, 3, none⟩ = some (.slice AL ln cL) := Blk.cell hb8 3
              have f0 := Blk.frozen hb8 0
              have f1 := Blk.frozen hb8 1
              have f2 := Blk.frozen hb8 2
              have f3 := Blk.frozen hb8 3
              simp -dsimp [go_sem, z0, z1, z2, z3, p0, p1, p2, p3, f0, f1, f2, f3]
              have hb7 := blk_set4 hb8 (.string ⟨#[97]⟩) (i64 1) (i64 (nx + 1)) (.slice A5 l5 c5)
              have ks7 := kp_set4 w8 y (.string ⟨#[97]⟩) (i64 1) (i64 (nx + 1)) (.slice A5 l5 c5)
              have hO7 := (OB.kp hO8 ks7 fun k hk _ (e : k = y) => by omega).mono (B' := y + 1) (by omega)
              have n7 := Kp.at_ n8 ks7 fun k (e : k = y) => by omega
              generalize (((World.setCell w8 ⟨y, 0, none⟩ (.string ⟨#[97]⟩)).setCell ⟨y, 1, none⟩ (i64 1)).setCell ⟨y, 2, none⟩ (i64 (nx + 1))).setCell ⟨y, 3, none⟩ (.slice A5 l5 c5) = w7 at *
              have r0 : World.cell? w7 ⟨y, 0, none⟩ = some (.string ⟨#[97]⟩) := Blk.cell hb7 0
              have r1 : World.cell? w7 ⟨y, 1, none⟩ = some (i64 1) := Blk.cell hb7 1
              have r2 : World.cell? w7 ⟨y, 2, none⟩ = some (i64 (nx + 1)) := Blk.cell hb7 2
              have r3 : World.cell? w7 ⟨y, 3, none⟩ = some (.slice A5 l5 c5) := Blk.cell hb7 3
              try simp -dsimp [go_sem, f5, r0, r1, r2, r3]
              refine call (ris_spec _ ⟨⟨#[97]⟩, 1, nx + 1, L5⟩ _ _ (OB.rb hO7) (by show (⟨#[97]⟩ : ByteArray).size ≤ 9223372036854775807; decide) (by have := IsB.len hI4; simp only at this ⊢; omega)) ?_
              rintro vq wq ⟨rfl, hkq⟩
              rw [IsB.is hI4 nameA]
              have r2 : wq.cell? ⟨y, 2, none⟩ = some (i64 (nx + 1)) := (Blk.nw hb7 hkq).cell 2
              simp -dsimp [go_sem, f5, f4, r2, hi1, hnx1, hnx2]
              exact ⟨⟨i1, nx, L5, l5, A5, c5, hl5, rfl, by omega, by omega, rfl, by omega, by omega, Blk.nw hb7 hkq, OB.nw hO7 hkq, hI4, Kp.nw n7 hkq⟩, by simp [intOf]; omega⟩
          · have hyz : y ≠ w4.heap.size := by omega
            have hzy : w4.heap.size ≠ y := by omega
            have kA : Nw w4 (w4.alloc (.cells #[.string ⟨#[]⟩, .int .i64 0, .int .i64 0, .slice none 0 0] 26)).drew := ((Kp.refl _ _).alloc _).drew
            refine ⟨kA, ?_⟩
            refine call (add_spec _ ⟨⟨#[97]⟩, 1, nx + 1, L⟩ _ fl dt bd AB cb _ (hO4.rb.nw kA) (by show L.length ≤ _; omega) hbod ((hrB.nw n4).nw kA) (by show _ ≤ nx + 1; omega)) ?_
            rintro v w5 ⟨⟨bv, rfl, hO5⟩, hk5⟩
            have hI5 := hI4.add fl dt bd
            obtain ⟨hnm5, hvl5⟩ := addB_name ⟨⟨#[97]⟩, 1, nx + 1, L⟩ fl dt bd
            have hax := addB_next ⟨⟨#[97]⟩, 1, nx + 1, L⟩ fl dt bd
            generalize addB ⟨⟨#[97]⟩, 1, nx + 1, L⟩ fl dt bd = r at *
            obtain ⟨⟨nm5, vl5, nx5, L5⟩, uid, code⟩ := r
            simp only at hI5 hnm5 hvl5 hax hO5
            subst hnm5; subst hvl5
            obtain ⟨A5, c5, rfl⟩ := hO5.open_
            obtain ⟨l5, hl5⟩ : ∃ l5, l5 = L5.length := ⟨_, rfl⟩
            simp only [← hl5] at hO5 ⊢
            have k45 := Kp.nw kA hk5
            refine ⟨k45, ?_⟩
            have hz5 : Blk w5 w4.heap.size 26 #[.string ⟨#[]⟩, .int .i64 0, .int .i64 0, .slice none 0 0] := ((Blk.new _ _ _).nw ((Kp.refl _ _).drew)).nw hk5
            obtain ⟨z, hzw⟩ : ∃ z, z = w4.heap.size := ⟨_, rfl⟩
            rw [← hzw] at hz5 hyz hzy ⊢
            have z0 := hz5.cell 0
            have z1 := hz5.cell 1
            have z2 := hz5.cell 2
            have z3 := hz5.cell 3
            have f0 := Blk.frozen hz5 0
            have f1 := Blk.frozen hz5 1
            have f2 := Blk.frozen hz5 2
            have f3 := Blk.frozen hz5 3
            have hz6 := blk_set4 hz5 (.string ⟨#[97]⟩) (i64 1) (i64 nx5) (.slice A5 l5 c5)
            have ks := kp_set4 w5 z (.string ⟨#[97]⟩) (i64 1) (i64 nx5) (.slice A5 l5 c5)
            have hO6 := (hO5.kp ks fun k hk _ (e : k = z) => by simp at hk; omega).mono (B' := y + 1) (by simp; omega)
            have k46 := k45.at_ ks fun k (e : k = z) => by omega
            simp -dsimp [go_sem, z0, z1, z2, z3, f0, f1, f2, f3]
            clear z0 z1 z2 z3 f0 f1 f2 f3
            generalize (((w5.setCell ⟨z, 0, none⟩ (.string ⟨#[97]⟩)).setCell ⟨z, 1, none⟩ (i64 1)).setCell ⟨z, 2, none⟩ (i64 nx5)).setCell ⟨z, 3, none⟩ (.slice A5 l5 c5) = w6 at *
            refine ⟨k46, ?_⟩
            have hb6 := hb4.nw k46
            have n6 := n4.nw k46
            clear c0 c1 c2 c3 d0 d1 d2 d3 a1 a2 a4 a5
            rcases hax with ⟨rfl, rfl, rfl⟩ | ⟨hcode, hbx⟩
            · have z0 : World.cell? w6 ⟨z, 0, none⟩ = some (.string ⟨#[97]⟩) := Blk.cell hz6 0
              have z1 : World.cell? w6 ⟨z, 1, none⟩ = some (i64 1) := Blk.cell hz6 1
              have z2 : World.cell? w6 ⟨z, 2, none⟩ = some (i64 (nx + 1 + 1)) := Blk.cell hz6 2
              have z3 : World.cell? w6 ⟨z, 3, none⟩ = some (.slice A5 l5 c5) := Blk.cell hz6 3
              have p0 : World.cell? w6 ⟨y, 0, none⟩ = some (.string ⟨#[97]⟩) := Blk.cell hb6 0
              have p1 : World.cell? w6 ⟨y, 1, none⟩ = some (i64 1) := Blk.cell hb6 1
              have p2 : World.cell? w6 ⟨y, 2, none⟩ = some (i64 (nx + 1)) := Blk.cell hb6 2
              have p3 : World.cell? w6 ⟨y, 3, none⟩ = some (.slice AL ln cL) := Blk.cell hb6 3
              have f0 := Blk.frozen hb6 0
              have f1 := Blk.frozen hb6 1
              have f2 := Blk.frozen hb6 2
              have f3 := Blk.frozen hb6 3
              simp -dsimp [go_sem, f5, f4, hnx1, z0, z1, z2, z3, p0, p1, p2, p3, f0, f1, f2, f3]
              have hb7 := blk_set4 hb6 (.string ⟨#[97]⟩) (i64 1) (i64 (nx + 1 + 1)) (.slice A5 l5 c5)
              have ks7 := kp_set4 w6 y (.string ⟨#[97]⟩) (i64 1) (i64 (nx + 1 + 1)) (.slice A5 l5 c5)
              have hO7 := (OB.kp hO6 ks7 fun k hk _ (e : k = y) => by omega).mono (B' := y + 1) (by omega)
              have n7 := Kp.at_ n6 ks7 fun k (e : k = y) => by omega
              generalize (((World.setCell w6 ⟨y, 0, none⟩ (.string ⟨#[97]⟩)).setCell ⟨y, 1, none⟩ (i64 1)).setCell ⟨y, 2, none⟩ (i64 (nx + 1 + 1))).setCell ⟨y, 3, none⟩ (.slice A5 l5 c5) = w7 at *
              have r0 : World.cell? w7 ⟨y, 0, none⟩ = some (.string ⟨#[97]⟩) := Blk.cell hb7 0
              have r1 : World.cell? w7 ⟨y, 1, none⟩ = some (i64 1) := Blk.cell hb7 1
              have r2 : World.cell? w7 ⟨y, 2, none⟩ = some (i64 ((nx + 1) + 1)) := Blk.cell hb7 2
              have r3 : World.cell? w7 ⟨y, 3, none⟩ = some (.slice A5 l5 c5) := Blk.cell hb7 3
              try simp -dsimp [go_sem, f5, r0, r1, r2, r3]
              refine call (ris_spec _ ⟨⟨#[97]⟩, 1, (nx + 1) + 1, L5⟩ _ _ (OB.rb hO7) (by show (⟨#[97]⟩ : ByteArray).size ≤ 9223372036854775807; decide) (by have := IsB.len hI5; simp only at this ⊢; omega)) ?_
              rintro vq wq ⟨rfl, hkq⟩
              rw [IsB.is hI5 nameA]
              have r2 : wq.cell? ⟨y, 2, none⟩ = some (i64 ((nx + 1) + 1)) := (Blk.nw hb7 hkq).cell 2
              simp -dsimp [go_sem, f5, f4, r2, hi1, hnx1, hnx2]
              exact ⟨⟨i1, (nx + 1), L5, l5, A5, c5, hl5, rfl, by omega, by omega, rfl, by omega, by omega, Blk.nw hb7 hkq, OB.nw hO7 hkq, hI5, Kp.nw n7 hkq⟩, by simp [intOf]; omega⟩
            · have hcode' : (code == 0) = false := by simpa using hcode
              have hcode2 : (code != 0) = true := by simpa using hcode
              injection hbx with _ _ hnx' hL'
              subst hnx'; subst hL'
              have z0 : World.cell? w6 ⟨z, 0, none⟩ = some (.string ⟨#[97]⟩) := Blk.cell hz6 0
              have z1 : World.cell? w6 ⟨z, 1, none⟩ = some (i64 1) := Blk.cell hz6 1
              have z2 : World.cell? w6 ⟨z, 2, none⟩ = some (i64 (nx + 1)) := Blk.cell hz6 2
              have z3 : World.cell? w6 ⟨z, 3, none⟩ = some (.slice A5 l5 c5) := Blk.cell hz6 3
              have p0 : World.cell? w6 ⟨y, 0, none⟩ = some (.string ⟨#[97]⟩) := Blk.cell hb6 0
              have p1 : World.cell? w6 ⟨y, 1, none⟩ = some (i64 1) := Blk.cell hb6 1
              have p2 : World.cell? w6 ⟨y, 2, none⟩ = some (i64 (nx + 1)) := Blk.cell hb6 2
              have p3 : World.cell? w6 ⟨y, 3, none⟩ = some (.slice AL ln cL) := Blk.cell hb6 3
              simp -dsimp [go_sem, f5, f4, hcode', hcode2, z0, z1, z2, z3, p0, p1, p2, p3]
              refine call (rsame_spec _ _ ⟨⟨#[97]⟩, 1, nx + 1, L5⟩ ⟨⟨#[97]⟩, 1, nx + 1, L5⟩ _ _ _ hO6.rb (hO4.rb.nw k46) (by have := hI4.len; simp only at this ⊢; omega) (by have := hI4.len; simp only at this ⊢; omega)) ?_
              rintro vs w8 ⟨rfl, hk8⟩
              rw [sameB_self]
              have hz8 := hz6.nw hk8
              have hb8 := hb6.nw hk8
              have hO8 := hO6.nw hk8
              have n8 := n6.nw hk8
              clear z0 z1 z2 z3 p0 p1 p2 p3
              have z0 : World.cell? w8 ⟨z, 0, none⟩ = some (.string ⟨#[97]⟩) := Blk.cell hz8 0
              have z1 : World.cell? w8 ⟨z, 1, none⟩ = some (i64 1) := Blk.cell hz8 1
              have z2 : World.cell? w8 ⟨z, 2, none⟩ = some (i64 (nx + 1)) := Blk.cell hz8 2
              have z3 : World.cell? w8 ⟨z, 3, none⟩ = some (.slice A5 l5 c5) := Blk.cell hz8 3
              have p0 : World.cell? w8 ⟨y, 0, none⟩ = some (.string ⟨#[97]⟩) := Blk.cell hb8 0
              have p1 : World.cell? w8 ⟨y, 1, none⟩ = some (i64 1) := Blk.cell hb8 1
              have p2 : World.cell? w8 ⟨y, 2, none⟩ = some (i64 (nx + 1)) := Blk.cell hb8 2
              have p3 : World.cell? w8 ⟨y, 3, none⟩ = some (.slice AL ln cL) := Blk.cell hb8 3
              have f0 := Blk.frozen hb8 0
              have f1 := Blk.frozen hb8 1
              have f2 := Blk.frozen hb8 2
              have f3 := Blk.frozen hb8 3
              simp -dsimp [go_sem, z0, z1, z2, z3, p0, p1, p2, p3, f0, f1, f2, f3]
              have hb7 := blk_set4 hb8 (.string ⟨#[97]⟩) (i64 1) (i64 (nx + 1)) (.slice A5 l5 c5)
              have ks7 := kp_set4 w8 y (.string ⟨#[97]⟩) (i64 1) (i64 (nx + 1)) (.slice A5 l5 c5)
              have hO7 := (OB.kp hO8 ks7 fun k hk _ (e : k = y) => by omega).mono (B' := y + 1) (by omega)
              have n7 := Kp.at_ n8 ks7 fun k (e : k = y) => by omega
              generalize (((World.setCell w8 ⟨y, 0, none⟩ (.string ⟨#[97]⟩)).setCell ⟨y, 1, none⟩ (i64 1)).setCell ⟨y, 2, none⟩ (i64 (nx + 1))).setCell ⟨y, 3, none⟩ (.slice A5 l5 c5) = w7 at *
              have r0 : World.cell? w7 ⟨y, 0, none⟩ = some (.string ⟨#[97]⟩) := Blk.cell hb7 0
              have r1 : World.cell? w7 ⟨y, 1, none⟩ = some (i64 1) := Blk.cell hb7 1
              have r2 : World.cell? w7 ⟨y, 2, none⟩ = some (i64 (nx + 1)) := Blk.cell hb7 2
              have r3 : World.cell? w7 ⟨y, 3, none⟩ = some (.slice A5 l5 c5) := Blk.cell hb7 3
              try simp -dsimp [go_sem, f5, r0, r1, r2, r3]
              refine call (ris_spec _ ⟨⟨#[97]⟩, 1, nx + 1, L5⟩ _ _ (OB.rb hO7) (by show (⟨#[97]⟩ : ByteArray).size ≤ 9223372036854775807; decide) (by have := IsB.len hI4; simp only at this ⊢; omega)) ?_
              rintro vq wq ⟨rfl, hkq⟩
              rw [IsB.is hI4 nameA]
              have r2 : wq.cell? ⟨y, 2, none⟩ = some (i64 (nx + 1)) := (Blk.nw hb7 hkq).cell 2
              simp -dsimp [go_sem, f5, f4, r2, hi1, hnx1, hnx2]
              exact ⟨⟨i1, nx, L5, l5, A5, c5, hl5, rfl, by omega, by omega, rfl, by omega, by omega, Blk.nw hb7 hkq, OB.nw hO7 hkq, hI4, Kp.nw n7 hkq⟩, by simp [intOf]; omega⟩
        · by_cases hk3' : kd = 3
          · subst hk3'
            simp -dsimp [go_sem, f5, hlt, h60', e0]
            have kS : Kp (At y) w4 w4.drew := kD.kp _
            refine draw (.take 1 (.take 2 (.take 3 (.take 4 (.take 5 (.alt 0 (.alt 6 (.take 7 (.take 8 (.take 9 (.alt 10 .done .stop)))) .stop) .stop)))))) (by kernel_rfl) (fun wz => Kp (At y) w4 wz) kS ?_
            simp -dsimp [go_sem, f5, hlt, d0, d1, d2, d3, a1, a2, a4, a5]
            refine ⟨fun wz hz => by simp [hpar hz], kS, ?_⟩
            have hlen4 := hI4.len
            simp only at hlen4
            have hbod : ∀ m ∈ L, m.body.length ≤ 1000000000 := fun m hm => by have := (hI4.all m hm).2.2.2.2; omega
            refine call (expunge_spec _ ⟨⟨#[97]⟩, 1, nx + 1, L⟩ _ us AU cu _ (hO4.rb.nw kD) (by show L.length ≤ _; omega) hbod ((hrU.nw n4).nw kD) (by omega)) ?_
            rintro v w5 ⟨⟨bv, A3, ng, c3', rfl, hng, hnc, hO5, hr3⟩, hk5⟩
            have hI5 := hI4.stay us
            have k45 := kD.nw hk5
            refine ⟨Nw.kp k45 _, ?_⟩
            simp only at hI5 hO5
            generalize stayB us L = L5 at *
            obtain ⟨A5, c5, rfl⟩ := hO5.open_
            obtain ⟨l5, hl5⟩ : ∃ l5, l5 = L5.length := ⟨_, rfl⟩
            simp only [← hl5] at hO5 ⊢
            have hO6 := hO5.mono (B' := y + 1) (by have := kD.size; omega)
            have hb6 := hb4.nw k45
            have n6 := n4.nw k45
            clear c0 c1 c2 c3 d0 d1 d2 d3 a1 a2 a4 a5
            have p0 : World.cell? w5 ⟨y, 0, none⟩ = some (.string ⟨#[97]⟩) := Blk.cell hb6 0
            have p1 : World.cell? w5 ⟨y, 1, none⟩ = some (i64 1) := Blk.cell hb6 1
            have p2 : World.cell? w5 ⟨y, 2, none⟩ = some (i64 (nx + 1)) := Blk.cell hb6 2
            have p3 : World.cell? w5 ⟨y, 3, none⟩ = some (.slice AL ln cL) := Blk.cell hb6 3
            have f0 := Blk.frozen hb6 0
            have f1 := Blk.frozen hb6 1
            have f2 := Blk.frozen hb6 2
            have f3 := Blk.frozen hb6 3
            simp -dsimp [go_sem, f5, f4, p0, p1, p2, p3, f0, f1, f2, f3]
            have kk := (Nw.kp k45 (At y)).trans (kp_set4 w5 y (.string ⟨#[97]⟩) (i64 1) (i64 (nx + 1)) (.slice A5 l5 c5)) fun _ _ h => h
            have hb7 := blk_set4 hb6 (.string ⟨#[97]⟩) (i64 1) (i64 (nx + 1)) (.slice A5 l5 c5)
            have ks7 := kp_set4 w5 y (.string ⟨#[97]⟩) (i64 1) (i64 (nx + 1)) (.slice A5 l5 c5)
            have hO7 := (OB.kp hO6 ks7 fun k hk _ (e : k = y) => by omega).mono (B' := y + 1) (by omega)
            have n7 := Kp.at_ n6 ks7 fun k (e : k = y) => by omega
            generalize (((World.setCell w5 ⟨y, 0, none⟩ (.string ⟨#[97]⟩)).setCell ⟨y, 1, none⟩ (i64 1)).setCell ⟨y, 2, none⟩ (i64 (nx + 1))).setCell ⟨y, 3, none⟩ (.slice A5 l5 c5) = w7 at *
            refine ⟨kk, ?_⟩
            have r0 : World.cell? w7 ⟨y, 0, none⟩ = some (.string ⟨#[97]⟩) := Blk.cell hb7 0
            have r1 : World.cell? w7 ⟨y, 1, none⟩ = some (i64 1) := Blk.cell hb7 1
            have r2 : World.cell? w7 ⟨y, 2, none⟩ = some (i64 (nx + 1)) := Blk.cell hb7 2
            have r3 : World.cell? w7 ⟨y, 3, none⟩ = some (.slice A5 l5 c5) := Blk.cell hb7 3
            try simp -dsimp [go_sem, f5, r0, r1, r2, r3]
            refine call (ris_spec _ ⟨⟨#[97]⟩, 1, nx + 1, L5⟩ _ _ (OB.rb hO7) (by show (⟨#[97]⟩ : ByteArray).size ≤ 9223372036854775807; decide) (by have := IsB.len hI5; simp only at this ⊢; omega)) ?_
            rintro vq wq ⟨rfl, hkq⟩
            rw [IsB.is hI5 nameA]
            have r2 : wq.cell? ⟨y, 2, none⟩ = some (i64 (nx + 1)) := (Blk.nw hb7 hkq).cell 2
            simp -dsimp [go_sem, f5, f4, r2, hi1, hnx1, hnx2]
            exact ⟨⟨i1, nx, L5, l5, A5, c5, hl5, rfl, by omega, by omega, rfl, by omega, by omega, Blk.nw hb7 hkq, OB.nw hO7 hkq, hI5, Kp.nw n7 hkq⟩, by simp [intOf]; omega⟩
          · have hk1b : (kd == 1) = false := by simpa using hk1'
            have hk3b : (kd == 3) = false := by simpa using hk3'
            simp -dsimp [go_sem, f5, hlt, h60', e0, hk1b, hk3b]
            have r0 : World.cell? w4 ⟨y, 0, none⟩ = some (.string ⟨#[97]⟩) := Blk.cell hb4 0
            have r1 : World.cell? w4 ⟨y, 1, none⟩ = some (i64 1) := Blk.cell hb4 1
            have r2 : World.cell? w4 ⟨y, 2, none⟩ = some (i64 (nx + 1)) := Blk.cell hb4 2
            have r3 : World.cell? w4 ⟨y, 3, none⟩ = some (.slice AL ln cL) := Blk.cell hb4 3
            try simp -dsimp [go_sem, f5, r0, r1, r2, r3]
            refine call (ris_spec _ ⟨⟨#[97]⟩, 1, nx + 1, L⟩ _ _ (OB.rb hO4) (by show (⟨#[97]⟩ : ByteArray).size ≤ 9223372036854775807; decide) (by have := IsB.len hI4; simp only at this ⊢; omega)) ?_
            rintro vq wq ⟨rfl, hkq⟩
            rw [IsB.is hI4 nameA]
            have r2 : wq.cell? ⟨y, 2, none⟩ = some (i64 (nx + 1)) := (Blk.nw hb4 hkq).cell 2
            simp -dsimp [go_sem, f5, f4, r2, hi1, hnx1, hnx2]
            exact ⟨⟨i1, nx, L, ln, AL, cL, hln, rfl, by omega, by omega, rfl, by omega, by omega, Blk.nw hb4 hkq, OB.nw hO4 hkq, hI4, Kp.nw n4 hkq⟩, by simp [intOf]; omega⟩
      · obtain rfl : i = 60 := by omega
        have hlt' : (60 : Int) < (q.length : Int) := by omega
        simp -dsimp [go_sem, f5, hlt']
        refine call (bxknown_spec _) ?_
        rintro v w5 ⟨rfl, hk5⟩
        simp -dsimp [go_sem]
        exact n4.nw hk5
    · obtain rfl : i = q.length := by omega
      simp -dsimp [go_sem, f5]
      refine call (bxknown_spec _) ?_
      rintro v w5 ⟨rfl, hk5⟩
      simp -dsimp [go_sem]
      exact n4.nw hk5
end Go.Proofs.Ytindfpaahlijeaa
