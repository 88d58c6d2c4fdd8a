/-
  BoxGone walked. By the session itself.
-/
import Derived.Test.YtindfpaahlijeaaBxK
namespace Go.Proofs.Ytindfpaahlijeaa
set_option linter.unusedSimpArgs false
set_option linter.unusedVariables false
set_option maxRecDepth 100000
set_option maxHeartbeats 2000000
open Go.Vc Go.RowKit

theorem gone_law (v : Value) (b : Bx) (uids : List Int) (X : Option Addr) (xc : Nat) (w : World) (h : RB w v b (fun _ => False)) (hn : b.name.size ≤ 9223372036854775807) (hll : b.L.length ≤ 9223372036854775807) (hx : Rd w X (uids.map i64)) (hxl : uids.length ≤ 9223372036854775807) :
    Cal Try.prog 5 #[v, .slice X uids.length xc] w fun v' w' => v' = .bool true ∧ Nw w w' := by
  obtain ⟨A, c, q, rfl, hq, hc, hr, ho, hb⟩ := id h
  have hql : q.length = b.L.length := by rw [← hq, List.length_map]
  refine enter Try.mixed Try.func5 rfl (by kernel_rfl) ?_
  have k0 : Nw w (w.alloc (.cells #[.string b.name, i64 b.val, i64 b.next, .slice A b.L.length c] 26)) := (Kp.refl _ _).alloc _
  have hb0 : Blk (w.alloc (.cells #[.string b.name, i64 b.val, i64 b.next, .slice A b.L.length c] 26)) w.heap.size 26 #[.string b.name, i64 b.val, i64 b.next, .slice A b.L.length c] := Blk.new _ _ _
  obtain ⟨x, hx'⟩ : ∃ x, x = w.heap.size := ⟨_, rfl⟩
  simp -dsimp [go_sem]
  rw [← hx'] at hb0 ⊢
  generalize w.alloc (.cells #[.string b.name, i64 b.val, i64 b.next, .slice A b.L.length c] 26) = wa at *
  refine call (large_spec _ b _ wa (h.nw k0) hll) ?_
  rintro v1 w1 ⟨⟨r, rfl⟩, hk1⟩
  have n1 := k0.nw hk1
  cases r with
  | true =>
    simp -dsimp [go_sem]
    exact n1
  | false =>
    have c0 := (hb0.nw hk1).cell 0
    have c1 := (hb0.nw hk1).cell 1
    have c2 := (hb0.nw hk1).cell 2
    have c3 := (hb0.nw hk1).cell 3
    simp -dsimp [go_sem, c0, c1, c2, c3]
    refine call (ris_spec _ b _ w1 (h.nw n1) hn (by omega)) ?_
    rintro v2 w2 ⟨rfl, hk2⟩
    have n2 := n1.nw hk2
    cases his : isB b with
    | false =>
      simp -dsimp [go_sem]
      exact n2
    | true =>
      have hI := IsB.of his
      by_cases h60 : (60 : Int) < (uids.length : Int)
      · simp -dsimp [go_sem, h60]
        exact n2
      · have hb2 := (hb0.nw hk1).nw hk2
        clear c0 c1 c2 c3
        have c0 := hb2.cell 0
        have c1 := hb2.cell 1
        have c2 := hb2.cell 2
        have c3 := hb2.cell 3
        have hlen := hI.len
        have hbod : ∀ m ∈ b.L, m.body.length ≤ 1000000000 := fun m hm => by have := (hI.all m hm).2.2.2.2; omega
        simp -dsimp [go_sem, h60, c0, c1, c2, c3]
        refine call (expunge_spec _ b _ uids X xc w2 (h.nw n2) (by omega) hbod (hx.nw n2) (by omega)) ?_
        rintro v3 w3 ⟨⟨bv, A3, ng, c3', rfl, hng, hnc, hO3, hr3⟩, hk3⟩
        rw [gone_srt hI] at hng hr3
        have hsg := stay_gone uids b.L
        obtain ⟨A4, c4, rfl⟩ := hO3.open_
        have hb3 := hb2.nw hk3
        have n3 := n2.nw hk3
        clear c0 c1 c2 c3
        obtain ⟨ln, hln⟩ : ∃ ln, ln = (stayB uids b.L).length := ⟨_, rfl⟩
        rw [← hln] at hsg
        simp only [← hln] at hO3 ⊢
        have hwl : IntKind.i64.wrap ((ln : Int) + (ng : Int)) = (b.L.length : Int) := by rw [w64 (by omega) (by omega)]; omega
        have kb : Nw w3 (w3.alloc (.cells #[.string b.name, i64 b.val, i64 b.next, .slice A4 ln c4] 26)) := (Kp.refl _ _).alloc _
        have hz4 : Blk (w3.alloc (.cells #[.string b.name, i64 b.val, i64 b.next, .slice A4 ln c4] 26)) w3.heap.size 26 #[.string b.name, i64 b.val, i64 b.next, .slice A4 ln c4] := Blk.new _ _ _
        have hb4 := hb3.nw kb
        have n4 := n3.nw kb
        have hO4 := hO3.rb.nw kb
        obtain ⟨z, hz'⟩ : ∃ z, z = w3.heap.size := ⟨_, rfl⟩
        rw [← hz'] at hz4
        have c1 := hb4.cell 1
        have c2 := hb4.cell 2
        have c3 := hb4.cell 3
        have z1 := hz4.cell 1
        have z2 := hz4.cell 2
        have z3 := hz4.cell 3
        simp -dsimp [go_sem, hwl, ← hz', c1, c2, c3, z1, z2, z3]
        generalize w3.alloc (.cells #[.string b.name, i64 b.val, i64 b.next, .slice A4 ln c4] 26) = w4 at *
        clear c1 c2 c3 z1 z2 z3
        refine loop [4, 7, 8, 9, 52, 53, 54, 55, 56, 57, 58, 59, 60, 61, 62, 63, 64, 65, 66, 67, 68, 69, 70, 71, 72, 73, 74, 75, 76, 77, 78, 79, 80, 81, 82, 83, 84, 85, 86, 87, 88, 89, 90, 91, 92, 93, 94, 95, 96, 97, 98, 99, 100, 101] (by kernel_rfl)
          (fun f w' => Box1 (fun a w' => ∃ i : Nat, a = i64 i ∧ i ≤ b.L.length ∧ Nw w4 w') (f 7) w') (fun f _ => b.L.length - (intOf (f 7)).toNat) ⟨0, rfl, by omega, Kp.refl _ _⟩ ?_
        rintro f w5 ⟨i, f7, hi, n5⟩
        have c3 := (hb4.nw n5).cell 3
        by_cases hlt : i < b.L.length
        · have hi1 : IntKind.i64.wrap ((i : Int) + 1) = ((i + 1 : Nat) : Int) := by rw [w64 (by omega) (by omega)]; omega
          obtain ⟨i1, hi1'⟩ : ∃ i1, i1 = i + 1 := ⟨_, rfl⟩
          rw [← hi1'] at hi1
          have hltq : i < q.length := by omega
          obtain ⟨u, hu⟩ : ∃ u, u = b.L[i].uid := ⟨_, rfl⟩
          have hqu : q[i].1.uid = u := by
            have : (q.map Prod.fst)[i]'(by simpa using hltq) = b.L[i] := by congr 1
            simpa [hu] using congrArg Msg.uid this
          simp -dsimp [go_sem, f7, c3, hlt]
          refine loop [8, 9, 59, 60, 61, 62, 63, 64, 65, 66, 67, 68, 69, 70, 71, 72, 73, 74, 75, 76, 77, 78] (by kernel_rfl)
            (fun f w' => Box2 (fun a l w' => ∃ j : Nat, a = i64 j ∧ j ≤ uids.length ∧ l = .bool (decide (u ∈ uids.take j)) ∧ Nw w5 w') (f 9) (f 8) w') (fun f _ => uids.length - (intOf (f 9)).toNat) ⟨0, rfl, by omega, by simp [upd], Kp.refl _ _⟩ ?_
          rintro g w6 ⟨j, g9, hj, g8, n6⟩
          have n46 := n5.nw n6
          have c3 := (hb4.nw n46).cell 3
          obtain ⟨ga, go, rfl, e0, e1, e2, e3⟩ := msg_at (((hr.nw n4).nw n46)) hltq
          by_cases hjl : j < uids.length
          · have hj1 : IntKind.i64.wrap ((j : Int) + 1) = ((j + 1 : Nat) : Int) := by rw [w64 (by omega) (by omega)]; omega
            obtain ⟨j1, hj1'⟩ : ∃ j1, j1 = j + 1 := ⟨_, rfl⟩
            rw [← hj1'] at hj1
            obtain ⟨xa, xo, rfl, ex⟩ := rd_int ((hx.nw n4).nw n46) hjl
            have htk : uids.take j1 = uids.take j ++ [uids[j]] := by rw [hj1', List.take_succ_eq_append_getElem hjl]
            have kd : Nw w6 w6.drew := (Kp.refl _ _).drew
            rw [hqu] at e0
            have d0 := kd.cell_some e0 fun h => h
            have dx := kd.cell_some ex fun h => h
            have d3 := kd.cell_some (c3.trans rfl) fun h => h
            by_cases hmem : u ∈ uids.take j
            · have hm1 : u ∈ uids.take j1 := by rw [htk]; exact List.mem_append_left _ hmem
              simp -dsimp [go_sem, f7, g9, g8, hjl, hmem]
              refine draw (.take 0 (.take 1 (.take 2 (.take 3 (.take 4 (.take 5 (.take 6 (.take 7 (.take 8 (.take 9 (.take 10 (.take 11 (.take 12 (.take 13 (.take 14 .done))))))))))))))) (by kernel_rfl) (fun wz => Nw w6 wz) kd ?_
              simp -dsimp [go_sem, f7, g9, g8, d0, dx, d3, hmem, hjl, hlt, hj1]
              exact ⟨⟨j1, rfl, by omega, by simp [hm1], n6.nw kd⟩, by simp [intOf]; omega⟩
            · have hm1 : (u ∈ uids.take j1) ↔ uids[j] = u := by rw [htk, List.mem_append, List.mem_singleton]; exact ⟨fun h => h.elim (fun h => absurd h hmem) Eq.symm, fun h => .inr h.symm⟩
              simp -dsimp [go_sem, f7, g9, g8, hjl, hmem]
              refine draw (.take 0 (.take 1 (.take 2 (.take 3 (.take 4 (.take 5 (.take 6 (.take 7 (.take 8 (.take 9 (.take 10 (.take 11 (.take 12 (.take 13 (.take 14 .done))))))))))))))) (by kernel_rfl) (fun wz => Nw w6 wz) kd ?_
              simp -dsimp [go_sem, f7, g9, g8, d0, dx, d3, hmem, hjl, hlt, hj1]
              have c3' : w6.cell? ⟨x, 3, none⟩ = some (.slice (some ⟨ga, go, none⟩) b.L.length c) := c3
              refine ⟨fun wz hz => by simp [hz.cell_some ex fun h => h], fun wz hz => by simp [hz.cell_some c3' fun h => h], fun wz hz => by simp [hz.cell_some e0 fun h => h], ?_⟩
              exact ⟨⟨j1, rfl, by omega, by rw [decide_eq_decide.2 hm1]; rfl, n6.nw kd⟩, by simp [intOf]; omega⟩
          · obtain rfl : j = uids.length := by omega
            rw [List.take_length] at g8
            have hdm := find_stay (b := b) uids hlt
            rw [← hu] at hdm
            obtain ⟨fs, hfs⟩ : ∃ fs, fs = findB (stayB uids b.L) u := ⟨_, rfl⟩
            rw [← hfs] at hdm
            rw [← hdm] at g8
            rw [hqu] at e0
            have kd : Nw w6 w6.drew := (Kp.refl _ _).drew
            have hbz := hb4.nw n46
            have hzz := hz4.nw n46
            have x0 : w6.cell? ⟨x, 0, none⟩ = some (.string b.name) := hbz.cell 0
            have x1 : w6.cell? ⟨x, 1, none⟩ = some (i64 b.val) := hbz.cell 1
            have x2 : w6.cell? ⟨x, 2, none⟩ = some (i64 b.next) := hbz.cell 2
            have x3 : w6.cell? ⟨x, 3, none⟩ = some (.slice (some ⟨ga, go, none⟩) b.L.length c) := hbz.cell 3
            have z0 : w6.cell? ⟨z, 0, none⟩ = some (.string b.name) := hzz.cell 0
            have z1 : w6.cell? ⟨z, 1, none⟩ = some (i64 b.val) := hzz.cell 1
            have z2 : w6.cell? ⟨z, 2, none⟩ = some (i64 b.next) := hzz.cell 2
            have z3 : w6.cell? ⟨z, 3, none⟩ = some (.slice A4 ln c4) := hzz.cell 3
            have d0 := kd.cell_some e0 fun h => h
            have dx0 := kd.cell_some x0 fun h => h
            have dx1 := kd.cell_some x1 fun h => h
            have dx2 := kd.cell_some x2 fun h => h
            have dx3 := kd.cell_some x3 fun h => h
            have dz0 := kd.cell_some z0 fun h => h
            have dz1 := kd.cell_some z1 fun h => h
            have dz2 := kd.cell_some z2 fun h => h
            have dz3 := kd.cell_some z3 fun h => h
            simp -dsimp [go_sem, f7, g9, g8]
            refine draw (.take 0 (.take 1 (.take 2 (.take 3 (.take 4 (.take 5 (.take 6 (.take 9 (.alt 7 (.take 8 (.take 10 (.take 11 (.take 12 (.take 13 (.take 14 (.take 15 (.take 16 (.take 17 (.take 18 (.take 20 (.alt 19 (.take 21 (.take 22 .done)) .stop)))))))))))) .stop))))))))) (by kernel_rfl) (fun wz => Nw w6 wz) kd ?_
            simp -dsimp [go_sem, f7, g8, hlt, d0, dx0, dx1, dx2, dx3, dz0, dz1, dz2, dz3]
            refine ⟨fun wz hz => by simp [hz.cell_some z0 fun h => h, hz.cell_some z1 fun h => h, hz.cell_some z2 fun h => h, hz.cell_some z3 fun h => h], fun wz hz => by simp [hz.cell_some x3 fun h => h], fun wz hz => by simp [hz.cell_some e0 fun h => h], ?_⟩
            refine call (find_spec _ ⟨b.name, b.val, b.next, stayB uids b.L⟩ _ u _ ((hO4.nw n46).nw kd) (by have := stay_len uids b.L; show (stayB uids b.L).length ≤ _; omega)) ?_
            rintro v w7 ⟨hv, hk7⟩
            replace hv : v = i64 fs := by rw [hv, hfs]
            subst hv
            have k67 := kd.nw hk7
            refine ⟨k67, ?_⟩
            have dx0 := k67.cell_some x0 fun h => h
            have dx1 := k67.cell_some x1 fun h => h
            have dx2 := k67.cell_some x2 fun h => h
            have dx3 := k67.cell_some x3 fun h => h
            have d0 := k67.cell_some e0 fun h => h
            simp -dsimp [go_sem, f7, g8, hlt, d0, dx0, dx1, dx2, dx3]
            refine ⟨fun wz hz => by simp [hz.cell_some x0 fun h => h, hz.cell_some x1 fun h => h, hz.cell_some x2 fun h => h, hz.cell_some x3 fun h => h], fun wz hz => by simp [hz.cell_some x3 fun h => h], fun wz hz => by simp [hz.cell_some e0 fun h => h], ?_⟩
            refine call (find_spec _ b _ u _ (((h.nw n4).nw n46).nw k67) (by omega)) ?_
            rintro v w8 ⟨hv, hk8⟩
            replace hv : v = i64 i := by rw [hv, hu, find_at hI hlt]
            subst hv
            refine ⟨k67.nw hk8, ?_⟩
            simp -dsimp [go_sem, f7, g8, hi1]
            exact ⟨⟨i1, rfl, by omega, (n5.nw n6).nw (k67.nw hk8)⟩, by simp [intOf]; omega⟩
        · obtain rfl : i = b.L.length := by omega
          have c0 := (hb4.nw n5).cell 0
          have c1 := (hb4.nw n5).cell 1
          have c2 := (hb4.nw n5).cell 2
          simp -dsimp [go_sem, f7, c0, c1, c2, c3]
          refine call (find_spec _ b _ 0 _ ((h.nw n4).nw n5) (by omega)) ?_
          rintro v w6 ⟨rfl, hk6⟩
          rw [find_zero hI]
          simp -dsimp [go_sem]
          refine call (bxknown_spec _) ?_
          rintro v w7 ⟨rfl, hk7⟩
          simp -dsimp [go_sem]
          exact ((n4.nw n5).nw hk6).nw hk7
end Go.Proofs.Ytindfpaahlijeaa
