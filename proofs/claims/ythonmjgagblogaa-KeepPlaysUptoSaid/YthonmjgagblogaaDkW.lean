/-
  The reference's disk: Crash walked. By the session itself.
-/
import Derived.Test.YthonmjgagblogaaDkU
namespace Go.Proofs.Ythonmjgagblogaa
set_option linter.unusedSimpArgs false
set_option linter.unusedVariables false
set_option maxRecDepth 100000
set_option maxHeartbeats 1000000
open Go.Vc Go.RowKit

/-- The files of which the first i have been cut. -/
def cutI (k i : Nat) (fs : List (Nm × Fil)) : List (Nm × Fil) := mapv (cutF k) (fs.take i) ++ fs.drop i
theorem cutI_at (k i : Nat) (fs : List (Nm × Fil)) (h : i < fs.length) : (cutI k i fs)[i]? = some fs[i] := by
  unfold cutI mapv
  rw [List.getElem?_append_right (by simp [Nat.min_eq_left (Nat.le_of_lt h)])]
  simp [Nat.min_eq_left (Nat.le_of_lt h), h]
theorem cutI_set (k i : Nat) (fs : List (Nm × Fil)) (h : i < fs.length) : (cutI k i fs).set i (fs[i].1, cutF k fs[i].2) = cutI k (i + 1) fs := by
  unfold cutI mapv
  have hl : ((fs.take i).map fun x => (x.1, cutF k x.2)).length = i := by simp [Nat.min_eq_left (Nat.le_of_lt h)]
  rw [List.set_append_right _ _ (by rw [hl]; exact Nat.le_refl _), hl, Nat.sub_self, List.drop_eq_getElem_cons h, List.take_succ_eq_append_getElem h, List.set_cons_zero, List.map_append]
  simp only [List.map_cons, List.map_nil, List.append_assoc, List.cons_append, List.nil_append]
theorem rcrash_spec (n : Int) (x : Nat) (D : Dsk) (F : Nat → Prop) (w : World) (h : RefD w x D F) (ok : D.Ok) :
    Cal Try.prog 29 #[.pointer (some ⟨x, 0, none⟩), i64 n] w fun v w' => v = .tuple #[] ∧ ∃ F', RefD w' x (dCrash D n) F' ∧ Gr F F' w w' ∧ Kp F w w' := by
  obtain ⟨L, A, c, Q, he, h0⟩ := h
  have hll := h0.lenL he ok
  have hfl : D.fs.length = L.length := by rw [← he]; simp [mapv]
  have hFx := h0.inn x (.inl rfl)
  have hcap := h0.own.2.2.1
  refine enter Try.mixed Try.func29 rfl (by kernel_rfl) ?_
  simp -dsimp [go_sem]
  refine loop [4, 5, 6, 9, 10, 11, 12, 13, 14, 15, 16, 17, 18, 19, 20, 21, 22, 23, 24, 25, 26, 27, 28, 29, 30, 31, 32, 33, 34, 35, 36, 37, 38, 39, 40, 41, 42, 43, 44, 45, 46, 47, 48, 49, 50, 51, 52, 53, 54, 55, 56, 57, 58, 59, 60] (by kernel_rfl)
    (fun f w' => Box1 (fun a w' => ∃ (i : Nat) (L' : RL) (Q' F' : Nat → Prop), a = i64 i ∧ i ≤ L.length ∧ L'.length = L.length ∧ mapv Prod.fst L' = cutI n.toNat i D.fs ∧ RefM w' x D.room D.left L' A c Q' F' ∧ Gr F F' w w' ∧ Kp F w w') (f 4) w') (fun f _ => L.length - (intOf (f 4)).toNat)
    ⟨0, L, Q, F, rfl, Nat.zero_le _, rfl, by simp [cutI, mapv, ← he], h0, fun k hk => .inl hk, Kp.refl _ _⟩ ?_
  rintro f w1 ⟨i, L1, Q1, F1, f4, hi, hL1, hm1, h1, hG1, hK1⟩
  have b1 : w1.cell? ⟨x, 1, none⟩ = some (.slice A L1.length c) := h1.blk.cell 1
  rw [hL1] at b1
  by_cases hlt : i < L.length
  · have hlt1 : i < L1.length := by omega
    have hltD : i < D.fs.length := by omega
    have hfile : L1[i].1 = D.fs[i].1 ∧ L1[i].2.1 = D.fs[i].2 := by
      have h2 := cutI_at n.toNat i D.fs hltD
      rw [← hm1] at h2
      unfold mapv at h2
      rw [List.getElem?_map, List.getElem?_eq_getElem hlt1] at h2
      simp only [Option.map_some, Option.some.injEq] at h2
      rw [← h2]
      exact ⟨rfl, rfl⟩
    obtain ⟨X, hX⟩ : ∃ X, X = D.fs[i] := ⟨_, rfl⟩
    have hlook : tLook D.fs X.1 = some X.2 := (tLook_mem ok.srt).2 (by rw [hX]; exact List.getElem_mem hltD)
    have hxl := ok.lasts _ _ hlook
    have hxu : X.2.b.length ≤ D.used := sumv_ge (fun f : Fil => f.b.length) hlook
    have hu1 := ok.used
    have hu2 := ok.room
    rw [← hX] at hfile
    have hset := cutI_set n.toNat i D.fs hltD
    rw [← hX] at hset
    obtain ⟨B, d, hv, hrB, hd, hq⟩ := h1.bytes _ (List.getElem_mem hlt1)
    obtain ⟨_, c1, c2⟩ := fc_at L1 i hlt1
    rw [hv] at c1
    obtain ⟨e1, e2⟩ := hfile
    rw [e2] at c1 c2 hrB hd hv
    obtain ⟨nm, x0⟩ := X
    simp only at e1 e2 c1 c2 hrB hd hxl hxu hset hlook hv
    obtain ⟨g, rfl⟩ := h1.own.some (by omega)
    obtain ⟨_, _, e3, hc1⟩ := h1.own.rd _ _ c1
    cases e3
    obtain ⟨_, _, e3, hc2⟩ := h1.own.rd _ _ c2
    cases e3
    rw [Nat.zero_add] at hc1 hc2
    have hsub : IntKind.i64.wrap ((x0.b.length : Int) - (x0.l : Int)) = ((x0.b.length - x0.l : Nat) : Int) := by rw [w64 (by omega) (by omega)]; omega
    obtain ⟨q, hq'⟩ : ∃ q, q = x0.b.length - x0.l := ⟨_, rfl⟩
    rw [← hq'] at hsub
    have hq1 : IntKind.i64.wrap ((q : Int) + 1) = ((q + 1 : Nat) : Int) := w64 (by omega) (by omega)
    have hcut := cutF_le n.toNat hxl
    have hcl : (cutF n.toNat x0).l = x0.l + n.toNat % (q + 1) := by rw [hq']; rfl
    have hcb : (cutF n.toNat x0).b = x0.b.take (cutF n.toNat x0).l := rfl
    have hrem : (max n 0).tmod ((q + 1 : Nat) : Int) = ((n.toNat % (q + 1) : Nat) : Int) := by
      have e : max n 0 = (n.toNat : Int) := by omega
      rw [e, Int.tmod_eq_emod_of_nonneg (by omega)]
      rfl
    obtain ⟨q1, hq1'⟩ : ∃ q1, q1 = q + 1 := ⟨_, rfl⟩
    rw [← hq1'] at hq1 hrem hcl
    have hq1n : ¬ q1 = 0 := by omega
    rw [show max n 0 = max 0 n by omega] at hrem
    obtain ⟨t, ht⟩ : ∃ t, t = n.toNat % q1 := ⟨_, rfl⟩
    rw [← ht] at hrem hcl
    obtain ⟨m, hm⟩ : ∃ m, m = (cutF n.toNat x0).l := ⟨_, rfl⟩
    rw [← hm] at hcl hcut hcb
    have hadd : IntKind.i64.wrap ((x0.l : Int) + (t : Int)) = (m : Int) := by rw [w64 (by omega) (by omega)]; omega
    have hmd : m ≤ d := by omega
    have hlen1 : (x0.b.take m).length = m := by simp; omega
    have hcf : cutF n.toNat x0 = ⟨x0.b.take m, m⟩ := by
      have : cutF n.toNat x0 = ⟨(cutF n.toNat x0).b, (cutF n.toNat x0).l⟩ := rfl
      rw [this, hcb, ← hm]
    rw [hcf] at hset
    have hi1 : IntKind.i64.wrap ((i : Int) + 1) = ((i + 1 : Nat) : Int) := w64 (by omega) (by omega)
    obtain ⟨i1, hi1'⟩ : ∃ i1, i1 = i + 1 := ⟨_, rfl⟩
    rw [← hi1'] at hi1 hset
    have kd : Nw w1 w1.drew := (Kp.refl _ _).drew
    have hc1d := kd.cell_some hc1 fun h => h
    have hc2d := kd.cell_some hc2 fun h => h
    simp -dsimp [go_sem, f4, b1, hlt]
    refine draw (.take 0 (.take 1 (.take 2 (.take 3 (.take 4 (.take 5 (.take 6 (.take 7 (.take 8 (.take 9 (.take 10 .done))))))))))) (by kernel_rfl) (fun wz => Nw w1 wz) kd ?_
    simp -dsimp [go_sem, hc1d, hc2d, hsub]
    refine ⟨fun wz hz => by simp [hz.cell_some hc1 fun h => h], fun wz hz => by simp [hz.cell_some hc2 fun h => h], ?_⟩
    have h1d := h1.nw kd
    have hrBd := hrB.nw kd
    have hK1d := hK1.trans (Nw.kp kd F) fun _ _ h => h
    have hG1d : Gr F F1 w w1.drew := Gr.wide hG1 (Nat.le_refl _) kd.size
    generalize w1.drew = w2 at *
    have kd2 : Nw w2 w2.drew := (Kp.refl _ _).drew
    have hc1e := kd2.cell_some hc1d fun h => h
    have hc2e := kd2.cell_some hc2d fun h => h
    refine drawD (.take 0 (.take 2 (.take 3 (.take 4 (.take 5 (.take 6 (.take 7 (.take 8 (.take 9 (.take 10 (.take 11 (.take 12 (.take 13 (.take 14 (.take 15 (.alt 1 (.alt 16 (.alt 17 (.alt 18 (.alt 19 .done .stop) .stop) .stop) .stop) .stop)))))))))))))))) 19 (by kernel_rfl) (fun wz => Nw w2 wz) kd2 ?_
    simp -dsimp [go_sem, hc1e, hc2e, hq1, hrem, hq1n, hadd, hmd]
    have ka2 : Nw w2 (w2.alloc (.cells #[] 5)).drew := ((Kp.refl _ _).alloc _).drew
    refine ⟨fun wz hz => by simp [hz.cell_some hc1d fun h => h], fun wz hz => by simp [hz.cell_some hc2d fun h => h], ka2, ?_⟩
    refine gs_app Try.Su8 (B := w2.heap.size) ((Gs.made w2 5 1 0 #[] rfl rfl rfl (by simp [maxLen]) (Nat.le_refl _)).nw ((Kp.refl _ _).drew)) (ys := (x0.b.take m).map u8) (m := m) (by rw [List.map_take]; exact (hrBd.nw ka2).take _) (by simp [Nat.min_eq_left hcut.1]) (one_u8 _) (by omega) (by omega) ka2.size ?_
    intro v3 w3 hG3 hk3
    have n3 : Nw w2 w3 := Nw.fr ka2 hk3 (Nat.le_refl _)
    rw [List.nil_append] at hG3
    have hB3 : Bs w3 v3 (x0.b.take m) w2.heap.size := Bs.of_gs hG3 (by rw [hlen1]; omega)
    refine ⟨.inr n3, ?_⟩
    obtain ⟨Q4, F4, hM4, hG4, hK4⟩ := refM_set1 h1d n3 i hlt1 hB3
    rw [e1, e2] at hM4
    obtain ⟨B3, d3, rfl, ho3, hA3⟩ := id hB3
    have hc13 := n3.cell_some hc1d fun h => h
    have hf13 := (h1d.nw n3).own.frozen (i * 3 + 1)
    have hc23 := n3.cell_some hc2d fun h => h
    have hf23 := (h1d.nw n3).own.frozen (i * 3 + 2)
    rw [hlen1] at hM4 hG4 hK4 ⊢
    simp -dsimp [go_sem, hc13, hf13, hc23, hf23, f4, hi1]
    refine ⟨n3, ?_⟩
    generalize w3.setCell ⟨g, i * 3 + 1, none⟩ (.slice B3 m d3) = w4 at *
    obtain ⟨L4, hL4⟩ : ∃ L4, L4 = L1.set i (nm, (⟨x0.b.take m, x0.l⟩, Value.slice B3 m d3)) := ⟨_, rfl⟩
    rw [← hL4] at hM4
    have hlen4 : L4.length = L.length := by rw [hL4, List.length_set, hL1]
    have hlt4 : i < L4.length := by omega
    have hL4i : L4[i] = (nm, (⟨x0.b.take m, x0.l⟩, Value.slice B3 m d3)) := by simp [hL4]
    obtain ⟨hM5, hK5⟩ := hM4.set2 i hlt4 m
    rw [hL4i] at hM5
    simp only at hM5
    refine ⟨⟨i1, _, Q4, F4, rfl, by omega, ?_, ?_, hM5, Gr.wide (Gr.trans hG1d hG4 hK1d.size hK4.size) (Nat.le_refl _) hK5.size, Kp.gr (Kp.gr hK1d hG1d hK4) (Gr.trans hG1d hG4 hK1d.size hK4.size) hK5⟩, by simp [intOf]; omega⟩
    · rw [List.length_set, hlen4]
    · rw [hL4, List.set_set, ← hset]
      unfold mapv at hm1 ⊢
      rw [List.map_set, hm1]
  · obtain rfl : i = L.length := by omega
    have f2 := h1.blk.frozen 2
    have c2 := h1.blk.cell 2
    have e : cutI n.toNat L.length D.fs = (dCrash D n).fs := by
      unfold cutI dCrash
      rw [← hfl, List.take_length, List.drop_length, List.append_nil]
    rw [e] at hm1
    simp -dsimp [go_sem, f4, b1, f2, c2]
    have hs : Kp (At x) w1 (w1.setCell ⟨x, 2, none⟩ (i64 (-1))) := (Kp.refl _ _).setCell_at _ _
    refine ⟨F1, ⟨L1, A, c, Q1, hm1, ⟨by simpa [dCrash, leftI] using h1.blk.set 2 (i64 (-1)), h1.own.kp hs h1.offx, fun q hq => (h1.bytes q hq).kp hs fun i hi e => (h1.offq i hi).1 e, h1.inn, h1.offx, h1.offq, fun i hi => Nat.lt_of_lt_of_le (h1.lt i hi) hs.size⟩⟩, Gr.wide hG1 (Nat.le_refl _) hs.size, hK1.trans hs fun k _ (e : k = x) => e ▸ hFx⟩
end Go.Proofs.Ythonmjgagblogaa
