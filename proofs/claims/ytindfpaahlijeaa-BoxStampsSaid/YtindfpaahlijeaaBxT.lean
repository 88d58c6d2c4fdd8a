/-
  BoxStamps walked. By the session itself.
-/
import Derived.Test.YtindfpaahlijeaaBxS
namespace Go.Proofs.Ytindfpaahlijeaa
set_option linter.unusedSimpArgs false
set_option linter.unusedVariables false
set_option maxRecDepth 100000
set_option maxHeartbeats 2000000
open Go.Vc Go.RowKit

theorem nw_cell {E W : World} (k : Nw E W) (g o : Nat) (h : g < E.heap.size) : W.cell? ⟨g, o, none⟩ = E.cell? ⟨g, o, none⟩ := by
  have := k.block g h fun h => h
  unfold World.cell?
  simp only [this]
theorem nw_frozen {E W : World} (k : Nw E W) (g o : Nat) (h : g < E.heap.size) : W.frozen? ⟨g, o, none⟩ = E.frozen? ⟨g, o, none⟩ := by
  have := k.block g h fun h => h
  unfold World.frozen?
  simp only [this]
theorem alloc_cell (w : World) (ob : Obj) (g o : Nat) (h : g < w.heap.size) : (w.alloc ob).cell? ⟨g, o, none⟩ = w.cell? ⟨g, o, none⟩ := nw_cell ((Kp.refl _ _).alloc _) g o h
theorem alloc_frozen (w : World) (ob : Obj) (g o : Nat) (h : g < w.heap.size) : (w.alloc ob).frozen? ⟨g, o, none⟩ = w.frozen? ⟨g, o, none⟩ := nw_frozen ((Kp.refl _ _).alloc _) g o h
theorem set_same (w : World) (g o : Nat) (v : Value) : (w.setCell ⟨g, o, none⟩ v).cell? ⟨g, o, none⟩ = (w.cell? ⟨g, o, none⟩).map fun _ => v := by
  unfold World.cell?
  simp only [World.setCell, Array.getElem?_modify, if_true]
  cases hg : w.heap[g]? with
  | none => simp
  | some ob =>
    cases ob with
    | cells cs t fr => by_cases ho : o < cs.size <;> simp [ho]
    | _ => simp
theorem set_off (w : World) (g o o' : Nat) (v : Value) (h : o ≠ o') : (w.setCell ⟨g, o, none⟩ v).cell? ⟨g, o', none⟩ = w.cell? ⟨g, o', none⟩ := by
  unfold World.cell?
  simp only [World.setCell, Array.getElem?_modify, if_true]
  cases hg : w.heap[g]? with
  | none => simp
  | some ob =>
    cases ob with
    | cells cs t fr => simp [Array.getElem?_setIfInBounds, h]
    | _ => simp
theorem set_far (w : World) (g g' o o' : Nat) (v : Value) (h : g ≠ g') : (w.setCell ⟨g, o, none⟩ v).cell? ⟨g', o', none⟩ = w.cell? ⟨g', o', none⟩ := by
  unfold World.cell?
  simp only [World.setCell, Array.getElem?_modify, h, if_false]
theorem nw_set {w E : World} (k : Nw w E) (g o : Nat) (v : Value) (h : w.heap.size ≤ g) : Nw w (E.setCell ⟨g, o, none⟩ v) := k.at_ ((Kp.refl _ _).setCell_at _ _) fun i (e : i = g) => by omega
set_option hygiene false in
local macro "szt" : tactic => `(tactic| first | omega | (simp; done) | (simp; omega))
set_option hygiene false in
local macro "nwt" : tactic => `(tactic| with_reducible (repeat' (first | assumption | refine Kp.drew ?_ | refine Kp.alloc ?_ _ | refine nw_set ?_ _ _ _ (by szt))))
set_option hygiene false in
local macro "spl" : tactic => `(tactic| ((repeat' (with_reducible refine And.intro ?_ ?_)) <;> try (solve | nwt)))
def StI (f2 f5 : Value) (l1 l2 : List Int) (w3 : World) (s : St) (w : World) : Prop := ∃ y z, s 2 = f2 ∧ s 5 = f5 ∧ s 7 = .pointer (some ⟨y, 0, none⟩) ∧ s 8 = .pointer (some ⟨z, 0, none⟩) ∧ w.cell? ⟨y, 0, none⟩ = some (i64 (tA l1)) ∧ w.cell? ⟨y, 1, none⟩ = some (i64 (tB l1)) ∧ w.cell? ⟨z, 0, none⟩ = some (i64 (tA l2)) ∧ w.cell? ⟨z, 1, none⟩ = some (i64 (tB l2)) ∧ Nw w3 w
theorem stamps_law (v : Value) (b : Bx) (uids : List Int) (X : Option Addr) (xc : Nat) (w : World) (h : RB w v b (fun _ => False)) (hn : b.name.size ≤ 9223372036854775807) (hll : b.L.length ≤ 9223372036854775807) (hx : Rd w X (uids.map i64)) (hxl : uids.length ≤ 9223372036854775807) :
    Cal Try.prog 6 #[v, .slice X uids.length xc] w fun v' w' => v' = .bool true ∧ Nw w w' := by
  obtain ⟨A, c, q, rfl, hq, hc, hr, ho, hb⟩ := id h
  have hql : q.length = b.L.length := by rw [← hq, List.length_map]
  refine enter Try.mixed Try.func6 rfl (by kernel_rfl) ?_
  have k0 : Nw w (w.alloc (.cells #[.string b.name, i64 b.val, i64 b.next, .slice A b.L.length c] 26)) := (Kp.refl _ _).alloc _
  have hb0 : Blk (w.alloc (.cells #[.string b.name, i64 b.val, i64 b.next, .slice A b.L.length c] 26)) w.heap.size 26 #[.string b.name, i64 b.val, i64 b.next, .slice A b.L.length c] := Blk.new _ _ _
  obtain ⟨x, hx'⟩ : ∃ x, x = w.heap.size := ⟨_, rfl⟩
  simp -dsimp [go_sem]
  rw [← hx'] at hb0 ⊢
  generalize w.alloc (.cells #[.string b.name, i64 b.val, i64 b.next, .slice A b.L.length c] 26) = wa at *
  refine call (large_spec _ b _ wa (h.nw k0) hll) ?_
  rintro v1 w1 ⟨⟨r, rfl⟩, hk1⟩
  have n1 := k0.nw hk1
  cases r with
  | true =>
    simp -dsimp [go_sem]
    exact n1
  | false =>
    have c0 := (hb0.nw hk1).cell 0
    have c1 := (hb0.nw hk1).cell 1
    have c2 := (hb0.nw hk1).cell 2
    have c3 := (hb0.nw hk1).cell 3
    simp -dsimp [go_sem, c0, c1, c2, c3]
    refine call (ris_spec _ b _ w1 (h.nw n1) hn (by omega)) ?_
    rintro v2 w2 ⟨rfl, hk2⟩
    have n2 := n1.nw hk2
    cases his : isB b with
    | false =>
      simp -dsimp [go_sem]
      exact n2
    | true =>
      have hI := IsB.of his
      by_cases h60 : (60 : Int) < (uids.length : Int)
      · simp -dsimp [go_sem, h60]
        exact n2
      · have hb2 := (hb0.nw hk1).nw hk2
        clear c0 c1 c2 c3
        have c0 := hb2.cell 0
        have c1 := hb2.cell 1
        have c2 := hb2.cell 2
        have c3 := hb2.cell 3
        have hlen := hI.len
        have hbod : ∀ m ∈ b.L, m.body.length ≤ 1000000000 := fun m hm => by have := (hI.all m hm).2.2.2.2; omega
        simp -dsimp [go_sem, h60, c0, c1, c2, c3]
        refine call (expunge_spec _ b _ uids X xc w2 (h.nw n2) (by omega) hbod (hx.nw n2) (by omega)) ?_
        rintro v3 w3 ⟨⟨bv, A3, ng, c3', rfl, hng, hnc, hO3, hr3⟩, hk3⟩
        have hsl := stay_len uids b.L
        try simp only at hO3
        obtain ⟨L2, hL2⟩ : ∃ L2, L2 = stayB uids b.L := ⟨_, rfl⟩
        rw [← hL2] at hO3 hsl
        clear hL2
        obtain ⟨A4, c4, rfl⟩ := hO3.open_
        have hb3 := hb2.nw hk3
        have n3 := n2.nw hk3
        clear c0 c1 c2 c3
        obtain ⟨ln, hln⟩ : ∃ ln, ln = L2.length := ⟨_, rfl⟩
        simp only [← hln] at hO3 ⊢
        have kb : Nw w3 (w3.alloc (.cells #[.string b.name, i64 b.val, i64 b.next, .slice A4 ln c4] 26)) := (Kp.refl _ _).alloc _
        have hz4 : Blk (w3.alloc (.cells #[.string b.name, i64 b.val, i64 b.next, .slice A4 ln c4] 26)) w3.heap.size 26 #[.string b.name, i64 b.val, i64 b.next, .slice A4 ln c4] := Blk.new _ _ _
        have hb4 := hb3.nw kb
        have n4 := n3.nw kb
        have hO4 := hO3.rb.nw kb
        obtain ⟨z, hz'⟩ : ∃ z, z = w3.heap.size := ⟨_, rfl⟩
        rw [← hz'] at hz4
        simp -dsimp [go_sem]
        rw [← hz']
        generalize w3.alloc (.cells #[.string b.name, i64 b.val, i64 b.next, .slice A4 ln c4] 26) = w4 at *
        obtain ⟨l1, hl1⟩ : ∃ l1, l1 = b.L.map Msg.uid := ⟨_, rfl⟩
        obtain ⟨l2, hl2⟩ : ∃ l2, l2 = L2.map Msg.uid := ⟨_, rfl⟩
        have b0 : w4.cell? ⟨x, 0, none⟩ = some (.string b.name) := hb4.cell 0
        have b1 : w4.cell? ⟨x, 1, none⟩ = some (i64 b.val) := hb4.cell 1
        have b2 : w4.cell? ⟨x, 2, none⟩ = some (i64 b.next) := hb4.cell 2
        have b3 : w4.cell? ⟨x, 3, none⟩ = some (.slice A b.L.length c) := hb4.cell 3
        have z0 : w4.cell? ⟨z, 0, none⟩ = some (.string b.name) := hz4.cell 0
        have z1 : w4.cell? ⟨z, 1, none⟩ = some (i64 b.val) := hz4.cell 1
        have z2 : w4.cell? ⟨z, 2, none⟩ = some (i64 b.next) := hz4.cell 2
        have z3 : w4.cell? ⟨z, 3, none⟩ = some (.slice A4 ln c4) := hz4.cell 3
        have kd : Nw w4 w4.drew := (Kp.refl _ _).drew
        have b0d := kd.cell_some b0 fun h => h
        have b1d := kd.cell_some b1 fun h => h
        have b2d := kd.cell_some b2 fun h => h
        have b3d := kd.cell_some b3 fun h => h
        have z0d := kd.cell_some z0 fun h => h
        have z1d := kd.cell_some z1 fun h => h
        have z2d := kd.cell_some z2 fun h => h
        have z3d := kd.cell_some z3 fun h => h
        refine draw_cut (.take 0 (.take 2 (.alt 1 (.alt 3 (.alt 4 (.alt 5 (.alt 6 (.alt 7 .done .stop) .stop) .stop) (.alt 5 (.alt 4 (.alt 6 (.alt 7 .done .stop) .stop) .stop) .stop)) (.alt 4 (.alt 3 (.alt 5 (.alt 6 (.alt 7 .done .stop) .stop) .stop) (.alt 5 (.alt 3 (.alt 6 (.alt 7 .done .stop) .stop) .stop) .stop)) (.alt 5 (.alt 3 (.alt 4 (.alt 6 (.alt 7 .done .stop) .stop) .stop) (.alt 4 (.alt 3 (.alt 6 (.alt 7 .done .stop) .stop) .stop) .stop)) .stop))) (.alt 4 (.alt 1 (.alt 3 (.alt 5 (.alt 6 (.alt 7 .done .stop) .stop) .stop) (.alt 5 (.alt 3 (.alt 6 (.alt 7 .done .stop) .stop) .stop) .stop)) (.alt 5 (.alt 1 (.alt 3 (.alt 6 (.alt 7 .done .stop) .stop) .stop) .stop) .stop)) (.alt 5 (.alt 1 (.alt 3 (.alt 4 (.alt 6 (.alt 7 .done .stop) .stop) .stop) (.alt 4 (.alt 3 (.alt 6 (.alt 7 .done .stop) .stop) .stop) .stop)) (.alt 4 (.alt 1 (.alt 3 (.alt 6 (.alt 7 .done .stop) .stop) .stop) .stop) .stop)) .stop))))) (StI (.pointer (some ⟨x, 0, none⟩)) (.pointer (some ⟨z, 0, none⟩)) l1 l2 w4) (by kernel_rfl) (fun wz => Nw w4 wz) kd ?_ ?_
        · simp -dsimp [go_sem, b0d, b1d, b2d, b3d, z0d, z1d, z2d, z3d]
          repeat refine ⟨fun wz hz => by simp [hz.cell_some b0 fun h => h, hz.cell_some b1 fun h => h, hz.cell_some b2 fun h => h, hz.cell_some b3 fun h => h, hz.cell_some z0 fun h => h, hz.cell_some z1 fun h => h, hz.cell_some z2 fun h => h, hz.cell_some z3 fun h => h], ?_⟩
          have spec1 : ∀ W, Nw w4 W → Cal Try.prog 19 #[.agg #[.string b.name, i64 b.val, i64 b.next, .slice A b.L.length c]] W fun v' w' => v' = .agg #[i64 (tA l1), i64 (tB l1)] ∧ Nw W w' := fun W k => by rw [hl1]; exact rstamp_spec _ b _ W ((h.nw n4).nw k) (by omega)
          have spec2 : ∀ W, Nw w4 W → Cal Try.prog 19 #[.agg #[.string b.name, i64 b.val, i64 b.next, .slice A4 ln c4]] W fun v' w' => v' = .agg #[i64 (tA l2), i64 (tB l2)] ∧ Nw W w' := fun W k => by rw [hl2]; exact rstamp_spec _ ⟨b.name, b.val, b.next, L2⟩ _ W (hO4.nw k) (by show L2.length ≤ _; omega)
          have hq1 := hk3.size
          have kr4 : Nw w4 w4 := Kp.refl _ _
          spl
          all_goals
            refine call (spec1 _ (by nwt)) ?_
            rintro _ W5 ⟨rfl, hk5⟩
            have kc5 : Nw w4 W5 := Kp.nw (by nwt) hk5
            have hs5 := hk5.size
            have hc5 := nw_cell hk5
            have hf5 := nw_frozen hk5
            simp -dsimp [go_sem]
            spl
          all_goals
            refine call (spec2 _ (by nwt)) ?_
            rintro _ W6 ⟨rfl, hk6⟩
            have kc6 : Nw w4 W6 := Kp.nw (by nwt) hk6
            have hs6 := hk6.size
            have hc6 := nw_cell hk6
            have hf6 := nw_frozen hk6
            try simp at hs5
            try simp at hs6
            simp -dsimp [go_sem]
            spl
          all_goals try (simp -dsimp (disch := szt) [go_sem, hc6, hf6, hc5, hf5, alloc_cell, alloc_frozen])
          all_goals try spl
          all_goals refine ⟨_, _, rfl, rfl, rfl, rfl, ?_, ?_, ?_, ?_, by nwt⟩
          all_goals try (simp (disch := szt) [hc6, hf6, hc5, hf5, alloc_cell, alloc_frozen, set_same, set_off, set_far]; done)
          all_goals try (refine (Blk.fresh (by simp)).cell _)
          all_goals trace_state
          all_goals sorry
        · rintro f w5 ⟨g1, g2, f2, f5, f7, f8, p0, p1, r0, r1, k5⟩
          have hb5 := hb4.nw k5
          have hz5 := hz4.nw k5
          have b0 : w5.cell? ⟨x, 0, none⟩ = some (.string b.name) := hb5.cell 0
          have b1 : w5.cell? ⟨x, 1, none⟩ = some (i64 b.val) := hb5.cell 1
          have b2 : w5.cell? ⟨x, 2, none⟩ = some (i64 b.next) := hb5.cell 2
          have b3 : w5.cell? ⟨x, 3, none⟩ = some (.slice A b.L.length c) := hb5.cell 3
          have z0 : w5.cell? ⟨z, 0, none⟩ = some (.string b.name) := hz5.cell 0
          have z1 : w5.cell? ⟨z, 1, none⟩ = some (i64 b.val) := hz5.cell 1
          have z2 : w5.cell? ⟨z, 2, none⟩ = some (i64 b.next) := hz5.cell 2
          have z3 : w5.cell? ⟨z, 3, none⟩ = some (.slice A4 ln c4) := hz5.cell 3
          have kd : Nw w5 w5.drew := (Kp.refl _ _).drew
          have b0d := kd.cell_some b0 fun h => h
          have b1d := kd.cell_some b1 fun h => h
          have b2d := kd.cell_some b2 fun h => h
          have b3d := kd.cell_some b3 fun h => h
          have p0d := kd.cell_some p0 fun h => h
          have p1d := kd.cell_some p1 fun h => h
          simp -dsimp [go_sem]
          refine draw (.take 0 (.take 2 (.take 3 (.take 4 (.take 5 (.take 6 (.take 7 (.take 8 (.alt 1 (.take 9 (.take 10 (.take 11 (.take 13 (.take 14 (.take 15 (.take 16 (.take 17 (.take 18 (.take 19 (.alt 12 (.take 20 (.take 21 (.take 22 (.alt 23 (.take 24 (.take 25 .done)) .stop)))) .stop))))))))))) .stop))))))))) (by kernel_rfl) (fun wz => Nw w5 wz) kd ?_
          simp -dsimp [go_sem, f2, f5, f7, f8, b0d, b1d, b2d, b3d, p0d, p1d, cv_float]
          repeat refine ⟨fun wz hz => by simp [hz.cell_some b0 fun h => h, hz.cell_some b1 fun h => h, hz.cell_some b2 fun h => h, hz.cell_some b3 fun h => h, hz.cell_some p0 fun h => h, hz.cell_some p1 fun h => h, cv_float], ?_⟩
          refine call (stamp_spec _ b (fun _ => False) _ (((h.nw n4).nw k5).nw kd) (by omega)) ?_
          rintro v6 w6 ⟨hv6, hk6⟩
          rw [← hl1] at hv6
          subst hv6
          have k6 := kd.nw hk6
          refine ⟨k6, ?_⟩
          have z0d := k6.cell_some z0 fun h => h
          have z1d := k6.cell_some z1 fun h => h
          have z2d := k6.cell_some z2 fun h => h
          have z3d := k6.cell_some z3 fun h => h
          have r0d := k6.cell_some r0 fun h => h
          have r1d := k6.cell_some r1 fun h => h
          simp -dsimp [go_sem, f2, f5, f7, f8, z0d, z1d, z2d, z3d, r0d, r1d, cv_float, order_int]
          repeat refine ⟨fun wz hz => by simp [hz.cell_some z0 fun h => h, hz.cell_some z1 fun h => h, hz.cell_some z2 fun h => h, hz.cell_some z3 fun h => h, hz.cell_some r0 fun h => h, hz.cell_some r1 fun h => h, cv_float], ?_⟩
          refine call (stamp_spec _ ⟨b.name, b.val, b.next, L2⟩ _ _ ((hO4.nw k5).nw k6) (by show L2.length ≤ _; omega)) ?_
          rintro v7 w7 ⟨hv7, hk7⟩
          replace hv7 : v7 = .complex .f64 (floatOfInt .f64 (tA l2)) (floatOfInt .f64 (tB l2)) := by rw [hv7, hl2]
          subst hv7
          have k7 := k6.nw hk7
          refine ⟨k7, ?_⟩
          simp -dsimp [go_sem, order_int]
          refine call (bxknown_spec _) ?_
          rintro v8 w8 ⟨rfl, hk8⟩
          refine ⟨k7.nw hk8, ?_⟩
          simp -dsimp [go_sem]
          exact (n4.nw k5).nw (k7.nw hk8)
end Go.Proofs.Ytindfpaahlijeaa
