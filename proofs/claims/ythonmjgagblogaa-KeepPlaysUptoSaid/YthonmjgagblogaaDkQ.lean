/-
  The reference's disk: Read, List, Sync, remove walked. By the session itself.
-/
import Derived.Test.YthonmjgagblogaaDkP
namespace Go.Proofs.Ythonmjgagblogaa
set_option linter.unusedSimpArgs false
set_option linter.unusedVariables false
set_option maxRecDepth 100000
set_option maxHeartbeats 1000000
open Go.Vc Go.RowKit

theorem RefM.srt {w : World} {x room c : Nat} {left : Option Nat} {L : RL} {A : Option Addr} {Q F : Nat → Prop} (h : RefM w x room left L A c Q F) {D : Dsk} (e : mapv Prod.fst L = D.fs) (ok : D.Ok) : Srt L := srt_mapv (by rw [e]; exact ok.srt)
/-- How much of a file lasts, set anew. -/
theorem RefM.set2 {w : World} {x room c g : Nat} {left : Option Nat} {L : RL} {Q F : Nat → Prop} (h : RefM w x room left L (some ⟨g, 0, none⟩) c Q F) (i : Nat) (hlt : i < L.length) (n : Nat) :
    RefM (w.setCell ⟨g, i * 3 + 2, none⟩ (i64 n)) x room left (L.set i (L[i].1, (⟨L[i].2.1.b, n⟩, L[i].2.2))) (some ⟨g, 0, none⟩) c Q F ∧ Kp F w (w.setCell ⟨g, i * 3 + 2, none⟩ (i64 n)) := by
  have hs : Kp (At g) w (w.setCell ⟨g, i * 3 + 2, none⟩ (i64 n)) := (Kp.refl _ _).setCell_at _ _
  have hFg : F g := h.inn g (.inr (.inl rfl))
  have hxg : x ≠ g := fun e => h.offx _ rfl e.symm
  have hlen : (L.set i (L[i].1, (⟨L[i].2.1.b, n⟩, L[i].2.2))).length = L.length := by simp
  refine ⟨⟨?_, ?_, fun q hq => ?_, h.inn, h.offx, h.offq, fun k hk => Nat.lt_of_lt_of_le (h.lt k hk) hs.size⟩, hs.mono fun k _ e => by rw [show k = g from e]; exact hFg⟩
  · rw [hlen]; exact h.blk.kp hs fun e => hxg e
  · rw [hlen, ← fc_set2 L i hlt n]; exact ow_setN h.own _ _
  · have hb : Bv w q.2.2 q.2.1.b Q := by
      rcases List.mem_or_eq_of_mem_set hq with hq | rfl
      · exact h.bytes q hq
      · exact h.bytes L[i] (List.getElem_mem hlt)
    exact hb.kp hs fun k hk e => (h.offq k hk).2 (by rw [show k = g from e]; rfl)
theorem dRead_look {L : RL} {D : Dsk} (e : mapv Prod.fst L = D.fs) (s : Nm) : tLook D.fs s = (tLook L s).map Prod.fst := by rw [← e, tLook_mapv]
theorem rread_spec (s : Nm) (x : Nat) (D : Dsk) (F : Nat → Prop) (w : World) (h : RefD w x D F) (ok : D.Ok) :
    Cal Try.prog 37 #[.pointer (some ⟨x, 0, none⟩), str s] w fun v w' => Nw w w' ∧ ∃ u, v = .tuple #[u, i64 (dRead D s).2] ∧ Bs w' u (dRead D s).1 w.heap.size := by
  obtain ⟨L, A, c, Q, he, h⟩ := h
  have hll := h.lenL he ok
  have hsr := h.srt he ok
  have hlk := dRead_look he s
  refine enter Try.mixed Try.func37 rfl (by kernel_rfl) ?_
  simp -dsimp [go_sem]
  refine call (rspot_spec s x D.room c D.left L A Q F w h hll hsr) ?_
  rintro v w1 ⟨rfl, hk1⟩
  have h1 := h.nw hk1
  have b1 := h1.blk.cell 1
  cases ht : tLook L s with
  | none =>
    have e : dRead D s = ([], 7) := by unfold dRead; rw [hlk, ht]; rfl
    rw [e]
    simp -dsimp [go_sem]
    exact ⟨hk1, Bs.nil _ _⟩
  | some q =>
    obtain ⟨f, vv⟩ := q
    have e : dRead D s = (f.b, 0) := by unfold dRead; rw [hlk, ht]; rfl
    rw [e]
    have hat := sp_at hsr ht
    have hlt := (List.getElem?_eq_some_iff.1 hat).1
    have hLi := (List.getElem?_eq_some_iff.1 hat).2
    have hmem : (s, (f, vv)) ∈ L := List.mem_of_getElem? hat
    obtain ⟨B, d, hv, hrB, hd, hq⟩ := h1.bytes _ hmem
    simp only at hv hrB hd
    obtain ⟨_, c1, _⟩ := fc_at L (spN L s) hlt
    rw [hLi, hv] at c1
    obtain ⟨b, o, rfl, hc1⟩ := h1.own.rd _ _ c1
    rw [← Nat.add_assoc] at hc1
    have hub : f.b.length ≤ 1073741824 := by
      have h2 := sumv_ge (fun f : Fil => f.b.length) (show tLook D.fs s = some f by rw [hlk, ht]; rfl)
      have h3 := ok.used
      have h4 := ok.room
      have h5 : D.used = sumv (fun f : Fil => f.b.length) D.fs := rfl
      omega
    generalize spN L s = i at *
    have ka : Nw w1 (w1.alloc (.cells #[] 5)) := (Kp.refl _ _).alloc _
    have b1a := (h1.nw ka).blk.cell 1
    have hc1a := ka.cell_some hc1 fun h => h
    simp -dsimp [go_sem, b1, hlt, hc1, b1a, hc1a]
    refine bs_fresh (m := f.b) rfl rfl hrB (by omega) ?_
    intro v2 w2 hB2 hk2
    simp -dsimp [go_sem]
    exact ⟨hk1.nw hk2, hB2.mono hk1.size⟩
theorem rlist_spec (x : Nat) (D : Dsk) (F : Nat → Prop) (w : World) (h : RefD w x D F) (ok : D.Ok) :
    Cal Try.prog 33 #[.pointer (some ⟨x, 0, none⟩)] w fun v w' => Nw w w' ∧ Gs w' 9 1 v D.fs.length ((keysA D.fs).map fun s => str s) w.heap.size := by
  obtain ⟨L, A, c, Q, he, h⟩ := h
  have hll := h.lenL he ok
  have e1 : D.fs.length = L.length := by rw [← he]; simp [mapv]
  have e2 : (keysA D.fs).map (fun s => str s) = L.map fun q => str q.1 := by rw [← he]; simp [keysA, mapv, Function.comp_def]
  rw [e1, e2]
  refine enter Try.mixed Try.func33 rfl (by kernel_rfl) ?_
  simp -dsimp [go_sem]
  refine loop [3, 4, 5, 6, 7, 8, 9, 10, 11, 12, 13, 14, 15, 16, 17, 18, 19, 20, 21, 22, 23, 24] (by kernel_rfl)
    (fun f w' => Box2 (fun a v w' => ∃ i m : Nat, i ≤ L.length ∧ m = i ∧ a = i64 i ∧ Gs w' 9 1 v m ((L.take i).map fun q => str q.1) w.heap.size ∧ Nw w w') (f 4) (f 3) w') (fun f _ => L.length - (intOf (f 4)).toNat) ⟨0, 0, Nat.zero_le _, rfl, rfl, Gs.nil _ _ _ _, Kp.refl _ _⟩ ?_
  rintro f w' ⟨i, m, hi, hmi, fi, hG, hK⟩
  have h' := h.nw hK
  have b1 := h'.blk.cell 1
  obtain ⟨A2, c2, fo, hoA, hA⟩ := id hG
  rw [fo] at hG
  by_cases hlt : i < L.length
  · obtain ⟨c0, _, _⟩ := fc_at L i hlt
    obtain ⟨b, o, rfl, hc0⟩ := h'.own.rd _ _ c0
    have hki : IntKind.i64.wrap ((i : Int) + 1) = ((i + 1 : Nat) : Int) := w64 (by omega) (by omega)
    have htk : (L.take (i + 1)).map (fun q => str q.1) = (L.take i).map (fun q => str q.1) ++ [str L[i].1] := by rw [List.take_succ_eq_append_getElem hlt, List.map_append]; rfl
    obtain ⟨i1, hi1⟩ : ∃ i1, i1 = i + 1 := ⟨_, rfl⟩
    rw [← hi1] at hki htk
    generalize L[i].1 = s1 at *
    simp -dsimp [go_sem, fi, fo, b1, hlt, hc0, hki]
    have ka : Nw w' (w'.alloc (.cells #[str s1] 9)) := (Kp.refl _ _).alloc _
    refine gs_app Try.Sstr (hG.nw ka) (Rd.fresh (xs := [str s1]) rfl rfl) (m := 1) (by simp) (by simp [Value.oneCell']) (by omega) (by omega) (Nat.le_trans hK.size ka.size) ?_
    intro v3 w3 hG3 hK3
    rw [← htk] at hG3
    obtain ⟨m1, hm1⟩ : ∃ m1, m1 = m + 1 := ⟨_, rfl⟩
    rw [← hm1] at hG3
    simp -dsimp [go_sem, fi, hki]
    exact ⟨⟨i1, m1, by omega, by omega, rfl, hG3, Nw.fr (hK.nw ka) hK3 (Nat.le_refl _)⟩, by simp [intOf]; omega⟩
  · obtain rfl : i = L.length := by omega
    rw [List.take_length, hmi] at hG
    rw [hmi] at fo
    simp -dsimp [go_sem, fi, fo, b1]
    exact ⟨hK, hG⟩
theorem rsync_spec (s : Nm) (x : Nat) (D : Dsk) (F : Nat → Prop) (w : World) (h : RefD w x D F) (ok : D.Ok) (hsl : s.length ≤ 9223372036854775807) :
    Cal Try.prog 58 #[.pointer (some ⟨x, 0, none⟩), str s] w fun v w' => v = i64 (dStep fSync D s).2 ∧ ∃ F', RefD w' x (dStep fSync D s).1 F' ∧ Gr F F' w w' ∧ Kp F w w' := by
  have hm := fun w1 (k : Nw w w1) (A : Option Addr) (c : Nat) (hr : Rd w1 A ([s].map fun s => str s)) => rmay_spec [s] A c x D F w1 (h.nw k) hr (by simp) (by simpa using hsl)
  obtain ⟨L, A, c, Q, he, h0⟩ := id h
  have hll := h0.lenL he ok
  have hsr := h0.srt he ok
  have hlk := dRead_look he s
  refine enter Try.mixed Try.func58 rfl (by kernel_rfl) ?_
  have ka : Nw w (w.alloc (.cells #[str s] 9)) := (Kp.refl _ _).alloc _
  simp -dsimp [go_sem]
  refine call (hm _ ka (some ⟨w.heap.size, 0, none⟩) 1 (Rd.fresh rfl rfl)) ?_
  rintro v w1 ⟨rfl, rfl⟩
  have e0 : dStep fSync D s = if mayL D [s] ≠ 0 then (D, mayL D [s]) else match tLook D.fs s with
    | none => (D, 7)
    | some x => ((fSync D s x).done, 0) := rfl
  by_cases hz : mayL D [s] = 0
  · rw [hz]
    rw [if_neg (by simp [hz])] at e0
    simp -dsimp [go_sem]
    refine call (rspot_spec s x D.room c D.left L A Q F _ (h0.nw ka) hll hsr) ?_
    rintro v w2 ⟨rfl, hk2⟩
    have n2 := ka.nw hk2
    have h2 := h0.nw n2
    cases ht : tLook L s with
    | none =>
      rw [hlk, ht] at e0
      rw [e0]
      simp -dsimp [go_sem]
      exact ⟨F, h.nw n2, fun k hk => .inl hk, Nw.kp n2 F⟩
    | some q =>
      obtain ⟨f, vv⟩ := q
      rw [hlk, ht] at e0
      rw [e0]
      have hat := sp_at hsr ht
      have hlt := (List.getElem?_eq_some_iff.1 hat).1
      have hLi := (List.getElem?_eq_some_iff.1 hat).2
      have hmem : (s, (f, vv)) ∈ L := List.mem_of_getElem? hat
      obtain ⟨B, d, hv, hrB, hd, hq⟩ := h2.bytes _ hmem
      simp only at hv hrB hd
      obtain ⟨_, c1, c2⟩ := fc_at L (spN L s) hlt
      have hold := sp_old hsr ht ((⟨f.b, f.b.length⟩ : Fil), vv)
      have hset := fun (g : Nat) (h3 : RefM w2 x D.room D.left L (some ⟨g, 0, none⟩) c Q F) => h3.set2 (spN L s) hlt f.b.length
      rw [hLi] at c1 c2 hset
      simp only at c1 c2 hset
      rw [← hold] at hset
      have hfs : mapv Prod.fst (tLay L s ((⟨f.b, f.b.length⟩ : Fil), vv)) = (fSync D s f).fs := by rw [mapv_lay, he]; rfl
      subst hv
      obtain ⟨g, rfl⟩ := h2.own.some (by omega)
      obtain ⟨b, o, e1, hc1⟩ := h2.own.rd _ _ c1
      cases e1
      obtain ⟨b, o, e1, hc2⟩ := h2.own.rd _ _ c2
      cases e1
      rw [Nat.zero_add] at hc1 hc2
      have hf2 := h2.own.frozen (spN L s * 3 + 2)
      obtain ⟨hM3, hK3⟩ := hset g h2
      have b1 : w2.cell? ⟨x, 1, none⟩ = some (.slice (some ⟨g, 0, none⟩) L.length c) := h2.blk.cell 1
      have hxg : x ≠ g := fun e => h2.offx _ rfl e.symm
      generalize spN L s = i at *
      have kd : Nw w2 w2.drew := (Kp.refl _ _).drew
      have b1d := kd.cell_some b1 fun h => h
      have hc1d := kd.cell_some hc1 fun h => h
      have hc2d := kd.cell_some hc2 fun h => h
      have hf2d : w2.drew.frozen? ⟨g, i * 3 + 2, none⟩ = false := hf2
      simp -dsimp [go_sem]
      refine draw (.take 0 (.take 1 (.take 2 (.take 3 (.take 4 (.take 5 (.take 6 (.take 7 (.take 8 (.take 9 (.take 10 (.take 11 (.take 12 (.take 13 (.take 14 (.take 15 (.alt 16 .done .stop))))))))))))))))) (by kernel_rfl) (fun wz => Kp (At g) w2 wz ∧ wz.cell? ⟨g, i * 3 + 1, none⟩ = some (.slice B f.b.length d)) ⟨Nw.kp kd _, hc1⟩ ?_
      simp -dsimp [go_sem, b1d, hlt, hc1d, hc2d, hf2d]
      refine ⟨fun wz hz hz1 => by simp [hz.cell_some b1 (fun (e : x = g) => hxg e)], fun wz hz hz1 => by simp [hz1], ⟨((Kp.refl _ _).setCell_at _ _).drew, hc1⟩, ?_⟩
      have hM4 := hM3.nw ((Kp.refl (fun _ => False) _).drew)
      have hR3 : RefD _ x (fSync D s f) F := ⟨_, _, _, _, hfs, hM4⟩
      refine call (rdid_spec x _ F _ hR3 (fun n hn => by have := ok.left n hn; omega)) ?_
      rintro v w4 ⟨rfl, hR4, hk4⟩
      simp -dsimp [go_sem]
      exact ⟨F, hR4, fun k hk => .inl hk, ((Nw.kp n2 F).trans hK3.drew fun _ _ h => h).trans hk4 fun k _ e => by rw [show k = x from e]; exact h2.inn _ (.inl rfl)⟩
  · have hz' : ((mayL D [s] : Int) != 0) = true := by simp; omega
    rw [if_pos hz] at e0
    rw [e0]
    simp -dsimp [go_sem, hz']
    exact ⟨F, h.nw ka, fun k hk => .inl hk, Nw.kp ka F⟩
end Go.Proofs.Ythonmjgagblogaa
