/-
  The reference's disk: Truncate walked. By the session itself.
-/
import Derived.Test.YthonmjgagblogaaGreatDkR
namespace Go.Proofs.YthonmjgagblogaaGreat
set_option linter.unusedSimpArgs false
set_option linter.unusedVariables false
set_option maxRecDepth 100000
set_option maxHeartbeats 1000000
open Go.Vc Go.RowKit

theorem fc_set_same : ∀ (L : RL) (i : Nat) (a : Nm) (f f' : Fil) (v : Value), f.l = f'.l → fc (L.set i (a, (f, v))) = fc (L.set i (a, (f', v)))
  | [], _, _, _, _, _, _ => rfl
  | p :: r, 0, a, f, f', v, e => by simp [fc, e]
  | p :: r, i + 1, a, f, f', v, e => by
    have := fc_set_same r i a f f' v e
    exact congrArg (fun t => str p.1 :: p.2.2 :: i64 p.2.1.l :: t) this
/-- A file's bytes, set anew. -/
theorem refM_set1 {w2 w3 : World} {x room c g : Nat} {left : Option Nat} {L : RL} {Q F : Nat → Prop} (h : RefM w2 x room left L (some ⟨g, 0, none⟩) c Q F) (hK : Nw w2 w3) (i : Nat) (hlt : i < L.length) {v : Value} {b : List UInt8} (hv : Bs w3 v b w2.heap.size) :
    ∃ Q' F', RefM (w3.setCell ⟨g, i * 3 + 1, none⟩ v) x room left (L.set i (L[i].1, (⟨b, L[i].2.1.l⟩, v))) (some ⟨g, 0, none⟩) c Q' F' ∧ Gr F F' w2 (w3.setCell ⟨g, i * 3 + 1, none⟩ v) ∧ Kp F w2 (w3.setCell ⟨g, i * 3 + 1, none⟩ v) := by
  obtain ⟨B, d, rfl, hoB, hB⟩ := hv
  have hs : Kp (At g) w3 (w3.setCell ⟨g, i * 3 + 1, none⟩ (.slice B b.length d)) := (Kp.refl _ _).setCell_at _ _
  have hFg : F g := h.inn g (.inr (.inl rfl))
  have hgl := h.lt g hFg
  have hxl := h.lt x (h.inn x (.inl rfl))
  have hxg : x ≠ g := fun e => h.offx _ rfl e.symm
  have hlen : (L.set i (L[i].1, (⟨b, L[i].2.1.l⟩, Value.slice B b.length d))).length = L.length := by simp
  have h3 := h.nw hK
  have hBn : ∀ k, blk B k → w2.heap.size ≤ k ∧ k < w3.heap.size := fun k hk => by
    obtain ⟨a, ha, rfl⟩ := blk_of hk
    exact ⟨hB a ha, hoB.lt a ha⟩
  refine ⟨fun k => Q k ∨ blk B k, fun k => F k ∨ blk B k, ⟨?_, ?_, fun q hq => ?_, fun k hk => ?_, h.offx, fun k hk => ?_, fun k hk => Nat.lt_of_lt_of_le ?_ hs.size⟩, fun k hk => ?_, (Nw.kp hK F).trans hs fun k _ e => by rw [show k = g from e]; exact hFg⟩
  · rw [hlen]; exact h3.blk.kp hs fun e => hxg e
  · rw [hlen, fc_set_same L i L[i].1 ⟨b, L[i].2.1.l⟩ L[i].2.1 _ rfl, ← fc_set1 L i hlt]; exact ow_setN h3.own _ _
  · have hb : Bv w3 q.2.2 q.2.1.b (fun k => Q k ∨ blk B k) := by
      rcases List.mem_or_eq_of_mem_set hq with hq | rfl
      · exact (h3.bytes q hq).mono fun k hk => .inl hk
      · exact ⟨B, d, rfl, hoB.rd, hoB.2.1, fun k hk => .inr hk⟩
    refine hb.kp hs fun k hk e => ?_
    have e : k = g := e
    rcases hk with hk | hk
    · exact (h.offq k hk).2 (by rw [e]; rfl)
    · have := (hBn k hk).1; omega
  · rcases hk with e | e | e | e
    · exact .inl (h.inn k (.inl e))
    · exact .inl (h.inn k (.inr (.inl e)))
    · exact .inl (h.inn k (.inr (.inr e)))
    · exact .inr e
  · rcases hk with hk | hk
    · exact h.offq k hk
    · have := (hBn k hk).1
      exact ⟨fun e => by omega, fun e => by have e : k = g := e; omega⟩
  · rcases hk with e | e
    · exact Nat.lt_of_lt_of_le (h.lt k e) hK.size
    · exact (hBn k e).2
  · rcases hk with e | e
    · exact .inl e
    · exact .inr ⟨(hBn k e).1, Nat.lt_of_lt_of_le (hBn k e).2 hs.size⟩
theorem rtrunc_spec (s : Nm) (n : Int) (x : Nat) (D : Dsk) (F : Nat → Prop) (w : World) (h : RefD w x D F) (ok : D.Ok) (hsl : s.length ≤ 9223372036854775807) :
    Cal Tryz.prog 35 #[.pointer (some ⟨x, 0, none⟩), str s, i64 n] w fun v w' => v = i64 (dTrunc D s n).2 ∧ ∃ F', RefD w' x (dTrunc D s n).1 F' ∧ Gr F F' w w' ∧ Kp F w w' := by
  have hm := fun w1 (k : Nw w w1) (A : Option Addr) (c : Nat) (hr : Rd w1 A ([s].map fun s => str s)) => rmay_spec [s] A c x D F w1 (h.nw k) hr (by simp) (by simpa using hsl)
  obtain ⟨L, A, c, Q, he, h0⟩ := id h
  have hll := h0.lenL he ok
  have hsr := h0.srt he ok
  have hlk := dRead_look he s
  refine enter Tryz.mixed Tryz.func35 rfl (by kernel_rfl) ?_
  have ka : Nw w (w.alloc (.cells #[str s] 9)) := (Kp.refl _ _).alloc _
  simp -dsimp [go_sem]
  refine call (hm _ ka (some ⟨w.heap.size, 0, none⟩) 1 (Rd.fresh rfl rfl)) ?_
  rintro v w1 ⟨rfl, rfl⟩
  have e0 : dTrunc D s n = if mayL D [s] ≠ 0 then (D, mayL D [s]) else match tLook D.fs s with
    | none => (D, 7)
    | some x => if n < 0 ∨ (x.b.length : Int) < n then (D, 1) else (Dsk.done { D with fs := tLay D.fs s ⟨x.b.take n.toNat, min x.l n.toNat⟩ }, 0) := rfl
  by_cases hz : mayL D [s] = 0
  · rw [hz]
    rw [if_neg (by simp [hz])] at e0
    simp -dsimp [go_sem]
    refine call (rspot_spec s x D.room c D.left L A Q F _ (h0.nw ka) hll hsr) ?_
    rintro v w2 ⟨rfl, hk2⟩
    have n2 := ka.nw hk2
    have h2 := h0.nw n2
    cases ht : tLook L s with
    | none =>
      rw [hlk, ht] at e0
      rw [e0]
      simp -dsimp [go_sem]
      exact ⟨F, h.nw n2, fun k hk => .inl hk, Nw.kp n2 F⟩
    | some q =>
      obtain ⟨f, vv⟩ := q
      rw [hlk, ht] at e0
      simp only [Option.map_some] at e0
      have hat := sp_at hsr ht
      have hlt := (List.getElem?_eq_some_iff.1 hat).1
      have hLi := (List.getElem?_eq_some_iff.1 hat).2
      have hmem : (s, (f, vv)) ∈ L := List.mem_of_getElem? hat
      obtain ⟨B, d, hv, hrB, hd, hq⟩ := h2.bytes _ hmem
      simp only at hv hrB hd
      obtain ⟨_, c1, c2⟩ := fc_at L (spN L s) hlt
      have hold := fun f' => sp_old hsr ht f'
      rw [hLi] at c1 c2
      simp only at c1 c2
      subst hv
      obtain ⟨g, rfl⟩ := h2.own.some (by omega)
      obtain ⟨b, o, e1, hc1⟩ := h2.own.rd _ _ c1
      cases e1
      rw [Nat.zero_add] at hc1
      have b1 : w2.cell? ⟨x, 1, none⟩ = some (.slice (some ⟨g, 0, none⟩) L.length c) := h2.blk.cell 1
      have hub : f.b.length ≤ 1073741824 := by
        have h2 := sumv_ge (fun f : Fil => f.b.length) (show tLook D.fs s = some f by rw [hlk, ht]; rfl)
        have h3 := ok.used
        have h4 := ok.room
        have h5 : D.used = sumv (fun f : Fil => f.b.length) D.fs := rfl
        omega
      generalize spN L s = i at *
      by_cases hn0 : n < 0
      · rw [if_pos (.inl hn0)] at e0
        rw [e0]
        simp -dsimp [go_sem, hn0]
        exact ⟨F, h.nw n2, fun k hk => .inl hk, Nw.kp n2 F⟩
      · by_cases hn1 : (f.b.length : Int) < n
        · rw [if_pos (.inr hn1)] at e0
          rw [e0]
          simp -dsimp [go_sem, hn0, b1, hlt, hc1, hn1]
          exact ⟨F, h.nw n2, fun k hk => .inl hk, Nw.kp n2 F⟩
        · rw [if_neg (by omega)] at e0
          obtain ⟨m, rfl⟩ : ∃ m : Nat, n = m := ⟨n.toNat, by omega⟩
          rw [Int.toNat_natCast] at e0
          have hmd : m ≤ d := by omega
          have hml : m ≤ f.b.length := by omega
          have kd : Nw w2 w2.drew := (Kp.refl _ _).drew
          have b1d := kd.cell_some b1 fun h => h
          have hc1d := kd.cell_some hc1 fun h => h
          have hlen1 : (f.b.take m).length = m := by simp [Nat.min_eq_left hml]
          simp -dsimp [go_sem, hn0, b1, hlt, hc1, hn1]
          refine drawD (.take 0 (.take 1 (.take 2 (.take 3 (.take 4 (.take 6 (.take 7 (.take 8 (.take 9 (.take 10 (.take 11 (.take 12 (.take 13 (.take 14 (.take 15 (.alt 5 (.alt 16 (.alt 17 (.alt 18 (.alt 19 .done .stop) .stop) .stop) .stop) .stop)))))))))))))))) 19 (by kernel_rfl) (fun wz => Nw w2 wz) kd ?_
          simp -dsimp [go_sem, b1d, hlt, hc1d, hmd]
          have ka2 : Nw w2 (w2.alloc (.cells #[] 5)).drew := ((Kp.refl _ _).alloc _).drew
          refine ⟨fun wz hz => by simp [hz.cell_some b1 fun h => h], fun wz hz => by simp [hz.cell_some hc1 fun h => h], ka2, ?_⟩
          refine gs_app Tryz.Su8 (B := w2.heap.size) ((Gs.made w2 5 1 0 #[] rfl rfl rfl (by simp [maxLen]) (Nat.le_refl _)).nw ((Kp.refl _ _).drew)) (ys := (f.b.take m).map u8) (m := m) (by rw [List.map_take]; exact (hrB.nw ka2).take _) (by simp [Nat.min_eq_left hml]) (one_u8 _) (by omega) (by omega) ka2.size ?_
          intro v3 w3 hG3 hk3
          have n3 : Nw w2 w3 := Nw.fr ka2 hk3 (Nat.le_refl _)
          rw [List.nil_append] at hG3
          have hB3 : Bs w3 v3 (f.b.take m) w2.heap.size := Bs.of_gs hG3 (by rw [hlen1]; omega)
          refine ⟨.inr n3, ?_⟩
          obtain ⟨Q4, F4, hM4, hG4, hK4⟩ := refM_set1 h2 n3 i hlt hB3
          rw [hLi] at hM4
          simp only at hM4
          obtain ⟨B3, d3, rfl, ho3, hA3⟩ := id hB3
          have b13 := (h2.nw n3).blk.cell 1
          have hc13 := n3.cell_some hc1 fun h => h
          have hf13 := (h2.nw n3).own.frozen (i * 3 + 1)
          rw [hlen1] at hM4 hG4 hK4 ⊢
          simp -dsimp [go_sem, b13, hlt, hc13, hf13]
          generalize w3.setCell ⟨g, i * 3 + 1, none⟩ (.slice B3 m d3) = w4 at *
          obtain ⟨L4, hL4⟩ : ∃ L4, L4 = L.set i (s, (⟨f.b.take m, f.l⟩, Value.slice B3 m d3)) := ⟨_, rfl⟩
          rw [← hL4] at hM4
          have hlen4 : L4.length = L.length := by rw [hL4]; simp
          have hlt4 : i < L4.length := by omega
          have hL4i : L4[i] = (s, (⟨f.b.take m, f.l⟩, Value.slice B3 m d3)) := by simp [hL4]
          obtain ⟨_, _, c24⟩ := fc_at L4 i hlt4
          rw [hL4i] at c24
          obtain ⟨b, o, e1, hc24⟩ := hM4.own.rd _ _ c24
          cases e1
          rw [Nat.zero_add] at hc24
          have b14 : w4.cell? ⟨x, 1, none⟩ = some (.slice (some ⟨g, 0, none⟩) L4.length c) := hM4.blk.cell 1
          have hf24 := hM4.own.frozen (i * 3 + 2)
          rw [hlen4] at b14
          have kd4 : Nw w4 w4.drew := (Kp.refl _ _).drew
          have b14d := kd4.cell_some b14 fun h => h
          have hc24d := kd4.cell_some hc24 fun h => h
          have hf24d : w4.drew.frozen? ⟨g, i * 3 + 2, none⟩ = false := hf24
          refine ⟨n3, ?_⟩
          have hmin : min (f.l : Int) (m : Int) = ((min f.l m : Nat) : Int) := by omega
          refine drawD (.take 0 (.take 1 (.take 2 (.take 3 (.take 4 (.take 5 (.take 6 (.take 7 (.take 8 (.take 9 (.take 10 (.take 11 (.take 12 (.take 13 (.take 14 (.alt 15 (.alt 16 (.alt 17 .done .stop) .stop) .stop)))))))))))))))) 17 (by kernel_rfl) (fun wz => Nw w4 wz) kd4 ?_
          simp -dsimp [go_sem, b14d, hlt, hc24d, hf24d, hmin]
          refine ⟨fun wz hz => by simp [hz.cell_some b14 fun h => h], fun wz hz => by simp [hz.cell_some hc24 fun h => h], kd4, ?_⟩
          obtain ⟨hM5, hK5⟩ := hM4.set2 i hlt4 (min f.l m)
          rw [hL4i] at hM5
          simp only at hM5
          rw [hL4, List.set_set, ← hold] at hM5
          have hM6 := hM5.nw ((Kp.refl (fun _ => False) _).drew)
          have hfs : mapv Prod.fst (tLay L s ((⟨f.b.take m, min f.l m⟩ : Fil), Value.slice B3 m d3)) = tLay D.fs s ⟨f.b.take m, min f.l m⟩ := by rw [mapv_lay, he]
          have hR6 : RefD _ x { D with fs := tLay D.fs s ⟨f.b.take m, min f.l m⟩ } F4 := ⟨_, _, _, _, hfs, hM6⟩
          refine call (rdid_spec x _ F4 _ hR6 (fun n hn => by have := ok.left n hn; omega)) ?_
          rintro v w7 ⟨rfl, hR7, hk7⟩
          have hx4 : F4 x := hM6.inn x (.inl rfl)
          rw [e0]
          simp -dsimp [go_sem]
          have k24 : Kp F w2 _ := hK4.trans hK5.drew fun k hk e => by
            rcases hG4 k e with e | e
            · exact e
            · omega
          exact ⟨F4, hR7, Gr.wide hG4 n2.size (Nat.le_trans hK5.drew.size hk7.size), ((Nw.kp n2 F).trans k24 fun _ _ h => h).trans hk7 fun k _ e => by rw [show k = x from e]; exact h2.inn x (.inl rfl)⟩
  · have hz' : ((mayL D [s] : Int) != 0) = true := by simp; omega
    rw [if_pos hz] at e0
    rw [e0]
    simp -dsimp [go_sem, hz']
    exact ⟨F, h.nw ka, fun k hk => .inl hk, Nw.kp ka F⟩
end Go.Proofs.YthonmjgagblogaaGreat
