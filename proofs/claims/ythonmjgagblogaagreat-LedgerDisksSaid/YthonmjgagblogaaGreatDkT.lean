/-
  The reference's disk: Append walked. By the session itself.
-/
import Derived.Test.YthonmjgagblogaaGreatDkS
namespace Go.Proofs.YthonmjgagblogaaGreat
set_option linter.unusedSimpArgs false
set_option linter.unusedVariables false
set_option maxRecDepth 100000
set_option maxHeartbeats 1000000
open Go.Vc Go.RowKit

theorem rappend_spec (s : Nm) (p : List UInt8) (X : Option Addr) (xc : Nat) (x : Nat) (D : Dsk) (F : Nat → Prop) (w : World) (h : RefD w x D F) (ok : D.Ok) (hsl : s.length ≤ 9223372036854775807) (hr : Rd w X (p.map u8)) (hX : Ofl X (p.map u8) F) (hp : p.length ≤ 1073741824) :
    Cal Tryz.prog 7 #[.pointer (some ⟨x, 0, none⟩), str s, .slice X p.length xc] w fun v w' => v = i64 (dAppend D s p).2 ∧ ∃ F', RefD w' x (dAppend D s p).1 F' ∧ Gr F F' w w' ∧ Kp F w w' := by
  have hm := fun w1 (k : Nw w w1) (A : Option Addr) (c : Nat) (hr : Rd w1 A ([s].map fun s => str s)) => rmay_spec [s] A c x D F w1 (h.nw k) hr (by simp) (by simpa using hsl)
  obtain ⟨L, A, c, Q, he, h0⟩ := id h
  have hll := h0.lenL he ok
  have hsr := h0.srt he ok
  have hlk := dRead_look he s
  have hfl : D.fs.length = L.length := by rw [← he]; simp [mapv]
  have hused := ok.used
  have hroom := ok.room
  refine enter Tryz.mixed Tryz.func7 rfl (by kernel_rfl) ?_
  have ka : Nw w (w.alloc (.cells #[str s] 9)) := (Kp.refl _ _).alloc _
  simp -dsimp [go_sem]
  refine call (hm _ ka (some ⟨w.heap.size, 0, none⟩) 1 (Rd.fresh rfl rfl)) ?_
  rintro v w1 ⟨rfl, rfl⟩
  have e0 : dAppend D s p = if mayL D [s] ≠ 0 then (D, mayL D [s])
    else if D.room < D.used + p.length ∨ (tLook D.fs s = .none ∧ 4096 ≤ D.fs.length) then (D, 6)
    else (Dsk.done { D with fs := tLay D.fs s ⟨((tLook D.fs s).getD .none).b ++ p, ((tLook D.fs s).getD .none).l⟩ }, 0) := rfl
  by_cases hz : mayL D [s] = 0
  · rw [hz]
    rw [if_neg (by simp [hz])] at e0
    simp -dsimp [go_sem]
    refine call (rspot_spec s x D.room c D.left L A Q F _ (h0.nw ka) hll hsr) ?_
    rintro v w2 ⟨rfl, hk2⟩
    have n2 := ka.nw hk2
    have h2 := h0.nw n2
    have kd : Nw w2 w2.drew := (Kp.refl _ _).drew
    have b0 : w2.cell? ⟨x, 0, none⟩ = some (i64 D.room) := h2.blk.cell 0
    have b1 : w2.cell? ⟨x, 1, none⟩ = some (.slice A L.length c) := h2.blk.cell 1
    have b0d := kd.cell_some b0 fun h => h
    have b1d := kd.cell_some b1 fun h => h
    have hw : IntKind.i64.wrap ((D.used : Int) + (p.length : Int)) = ((D.used + p.length : Nat) : Int) := by rw [w64 (by omega) (by omega)]; omega
    obtain ⟨nu, hnu⟩ : ∃ nu, nu = D.used + p.length := ⟨_, rfl⟩
    rw [← hnu] at hw e0
    simp -dsimp [go_sem]
    refine draw (.take 0 (.take 2 (.take 3 (.take 5 (.take 6 (.take 7 (.take 8 (.alt 1 (.take 4 (.take 9 (.take 10 (.take 11 (.take 12 (.take 13 (.take 14 (.take 15 (.take 16 (.take 17 (.take 18 (.take 19 (.take 20 (.take 21 .done)))))))))))))) .stop)))))))) (by kernel_rfl) (fun wz => Nw w2 wz) kd ?_
    simp -dsimp [go_sem, b0d]
    refine ⟨fun wz hz => by simp [hz.cell_some b0 fun h => h], ?_⟩
    refine call (rused_spec x D F w2.drew ((h.nw n2).nw kd) ok) ?_
    rintro v w3 ⟨rfl, rfl⟩
    refine ⟨kd, ?_⟩
    have h3 := h2.nw kd
    have n3 := n2.nw kd
    by_cases cU : D.room < nu
    · have cU' : (D.room : Int) < (nu : Int) := by omega
      rw [if_pos (.inl cU)] at e0
      rw [e0]
      simp -dsimp [go_sem, b0d, hw, cU, cU']
      exact ⟨F, h.nw n3, fun k hk => .inl hk, Nw.kp n3 F⟩
    · have cU' : ¬ (D.room : Int) < (nu : Int) := by omega
      cases ht : tLook L s with
      | none =>
        by_cases c4 : 4096 ≤ L.length
        · have c4' : (4096 : Int) ≤ (L.length : Int) := by omega
          rw [if_pos (.inr ⟨by rw [hlk, ht]; rfl, by rw [hfl]; exact c4⟩)] at e0
          rw [e0]
          simp -dsimp [go_sem, b0d, b1d, hw, cU, cU', c4, c4']
          exact ⟨fun wz hz => by simp [hz.cell_some b1 fun h => h], F, h.nw n3, fun k hk => .inl hk, Nw.kp n3 F⟩
        have c4' : ¬ (4096 : Int) ≤ (L.length : Int) := by omega
        rw [if_neg (by rw [hfl]; omega), show tLook D.fs s = none by rw [hlk, ht]; rfl] at e0
        have hnew := fun f' => sp_new hsr ht f'
        have hi := sp_le L s
        simp -dsimp [go_sem, b0d, b1d, hw, cU, cU', c4, c4']
        refine ⟨fun wz hz => by simp [hz.cell_some b1 fun h => h], ?_⟩
        generalize spN L s = i at *
        have hlc := h2.own.2.1
        have hic : i ≤ c := by omega
        have b1w : w2.cell? ⟨x, 1, none⟩ = some (.slice A L.length c) := h2.blk.cell 1
        have hone1 : ∀ u ∈ fc (L.take i), u.oneCell' = true := fc_one _ fun q hq => h2.slices q (List.mem_of_mem_take hq)
        have hone2 : ∀ u ∈ fc (L.drop i), u.oneCell' = true := fc_one _ fun q hq => h2.slices q (List.mem_of_mem_drop hq)
        have hlen1 : (L.take i).length = i := by simp [Nat.min_eq_left hi]
        have hlen2 : (L.drop i).length = L.length - i := by simp
        have kaf : Nw w2 (w2.alloc (.cells #[] 56)).drew := ((Kp.refl _ _).alloc _).drew
        have kaf0 : Nw w2 (w2.alloc (.cells #[] 56)) := (Kp.refl _ _).alloc _
        have b1f := kaf0.cell_some b1w fun h => h
        simp -dsimp [go_sem, b1f, hi, hic]
        refine gs_app SFile (B := w2.heap.size) ((Gs.made w2 56 3 0 #[] rfl rfl rfl (by simp [maxLen]) (Nat.le_refl _)).nw ((Kp.refl _ _).drew)) (ys := fc (L.take i)) (m := i) (by rw [← fc_take _ _ hi]; exact (h2.own.rd.nw kaf).take _) (by rw [fc_len, hlen1]) hone1 (by omega) (by omega) kaf.size ?_
        intro v4 w4 hG4 hk4
        have n4 : Nw w2 w4 := Nw.fr kaf hk4 (Nat.le_refl _)
        rw [List.nil_append] at hG4
        obtain ⟨m4, hm4⟩ : ∃ m4, m4 = 0 + i := ⟨_, rfl⟩
        rw [← hm4] at hG4
        obtain ⟨A4, e4, rfl, ho4, hA4⟩ := id hG4
        simp -dsimp [go_sem]
        have kb : Nw w4 (w4.alloc (.cells #[str s, .slice none 0 0, i64 (0 : Nat)] 56)) := (Kp.refl _ _).alloc _
        refine gs_app SFile (hG4.nw kb) (ys := fc [(s, (⟨[], 0⟩, .slice none 0 0))]) (Rd.fresh rfl rfl) (m := 1) (by rw [fc_len]; rfl) (fc_one _ fun q hq => by simp at hq; subst hq; exact ⟨none, 0, 0, rfl⟩) (by omega) (by omega) (Nat.le_trans n4.size kb.size) ?_
        intro v5 w5 hG5 hk5
        have n5 : Nw w2 w5 := Nw.fr (n4.nw kb) hk5 (Nat.le_refl _)
        rw [← fc_app] at hG5
        obtain ⟨m5, hm5⟩ : ∃ m5, m5 = m4 + 1 := ⟨_, rfl⟩
        rw [← hm5] at hG5
        obtain ⟨A5, e5, rfl, ho5, hA5⟩ := id hG5
        have b15 := n5.cell_some b1w fun h => h
        simp -dsimp [go_sem, b15, hi, hic]
        have hrX := rd_cut3 (h2.own.rd.nw n5) (c := c) (m := i) (by rw [fc_len]; omega)
        rw [fc_drop _ _ hi] at hrX
        refine gs_app SFile hG5 (ys := fc (L.drop i)) hrX (m := L.length - i) (by rw [fc_len, hlen2]) hone2 (by omega) (by omega) n5.size ?_
        intro v6 w6 hG6 hk6
        have n6 : Nw w2 w6 := Nw.fr n5 hk6 (Nat.le_refl _)
        rw [← fc_app] at hG6
        obtain ⟨m6, hm6⟩ : ∃ m6, m6 = m5 + (L.length - i) := ⟨_, rfl⟩
        rw [← hm6] at hG6
        obtain ⟨A6, e6, rfl, ho6, hA6⟩ := id hG6
        have b16 := n6.cell_some b1w fun h => h
        have b16f := (h2.nw n6).blk.frozen 1
        simp -dsimp [go_sem, b16, b16f]
        have hi2 := Nat.min_eq_left hi
        obtain ⟨L2, hL2⟩ : ∃ L2 : RL, L2 = L.take i ++ (s, ((⟨[], 0⟩ : Fil), Value.slice none 0 0)) :: L.drop i := ⟨_, rfl⟩
        have e62 : L.take i ++ [(s, ((⟨[], 0⟩ : Fil), Value.slice none 0 0))] ++ L.drop i = L2 := by rw [hL2]; simp
        rw [e62] at ho6
        have hm62 : m6 = L2.length := by rw [hL2, hm6, hm5, hm4]; simp; omega
        have h26 := h2.nw n6
        obtain ⟨F2, hM2, hGq, hKq⟩ := refM_setL (Q' := Q) h2 n6 hm62 ho6 hA6 (fun q hq => by
          rw [hL2] at hq
          rcases List.mem_append.1 hq with hq | hq
          · exact h26.bytes q (List.mem_of_mem_take hq)
          · rcases List.mem_cons.1 hq with rfl | hq
            · exact ⟨none, 0, rfl, Rd.nil _ _, Nat.le_refl _, fun _ h => h.elim⟩
            · exact h26.bytes q (List.mem_of_mem_drop hq)) (fun k hk => .inl hk) (fun k hk hb => by
          obtain ⟨a, ha, rfl⟩ := blk_of hb
          have h1 := hA6 a ha
          have h2 := h2.lt _ (h2.inn _ (.inr (.inr hk)))
          omega)
        have hlt2 : i < L2.length := by rw [hL2]; simp; omega
        have hL2i : L2[i] = (s, ((⟨[], 0⟩ : Fil), Value.slice none 0 0)) := by
          have : L2[i]? = some (s, ((⟨[], 0⟩ : Fil), Value.slice none 0 0)) := by
            rw [hL2, List.getElem?_append_right (by rw [hlen1]; exact Nat.le_refl _), hlen1, Nat.sub_self]; rfl
          exact (List.getElem?_eq_some_iff.1 this).2
        have hold2 : ∀ f', L2.set i (s, f') = tLay L s f' := fun f' => by
          rw [hnew, hL2, List.set_append_right _ _ (by rw [hlen1]; exact Nat.le_refl _), hlen1, Nat.sub_self]; rfl
        rw [hm62] at hM2 hGq hKq ⊢
        have hrq := (hr.nw n2).nw n6
        have hrq := hrq.kp ((Kp.refl (At x) w6).setCell_at 1 (.slice A6 L2.length e6)) (fun a ha hx (e : a.block = x) => hX a ha hx (by rw [e]; exact h0.inn x (.inl rfl)))
        generalize w6.setCell ⟨x, 1, none⟩ (.slice A6 L2.length e6) = wq at *
        obtain ⟨gq, rfl⟩ := hM2.own.some (by omega)
        obtain ⟨_, c2q, _⟩ := fc_at L2 i hlt2
        rw [hL2i] at c2q
        simp only at c2q
        obtain ⟨b, o, e1, hc2q⟩ := hM2.own.rd _ _ c2q
        cases e1
        rw [Nat.zero_add] at hc2q
        have kdq : Nw wq wq.drew := (Kp.refl _ _).drew
        have b2q : wq.cell? ⟨x, 1, none⟩ = some (.slice (some ⟨gq, 0, none⟩) L2.length e6) := hM2.blk.cell 1
        have b2qd := kdq.cell_some b2q fun h => h
        have hc2qd := kdq.cell_some hc2q fun h => h
        refine drawD (.take 0 (.take 1 (.take 2 (.take 3 (.take 4 (.take 6 (.take 7 (.take 8 (.take 9 (.take 10 (.take 11 (.take 12 (.take 13 (.take 15 (.alt 5 (.alt 14 (.alt 16 (.alt 17 (.alt 18 (.alt 19 .done .stop) .stop) .stop) .stop) .stop) .stop))))))))))))))) 19 (by kernel_rfl) (fun wz => Nw wq wz) kdq ?_
        simp -dsimp [go_sem, b2qd, hlt2, hc2qd]
        have ka2 : Nw wq (wq.alloc (.cells #[] 5)).drew := ((Kp.refl _ _).alloc _).drew
        refine ⟨fun wz hz => by simp [hz.cell_some b2q fun h => h], fun wz hz => by simp [hz.cell_some hc2q fun h => h], ka2, ?_⟩
        refine gs_app Tryz.Su8 (B := wq.heap.size) ((Gs.made wq 5 1 0 #[] rfl rfl rfl (by simp [maxLen]) (Nat.le_refl _)).nw ((Kp.refl _ _).drew)) (ys := ([] : List UInt8).map u8) (m := 0) (Rd.nil _ none) (by simp) (one_u8 _) (by omega) (by omega) ka2.size ?_
        intro v4 w4 hG4 hk4
        have n4 : Nw wq w4 := Nw.fr ka2 hk4 (Nat.le_refl _)
        rw [List.nil_append] at hG4
        refine ⟨.inr n4, ?_⟩
        obtain ⟨m4, hm4⟩ : ∃ m4, m4 = 0 + 0 := ⟨_, rfl⟩
        rw [← hm4] at hG4
        obtain ⟨A4, c4, rfl, ho4, hA4⟩ := id hG4
        simp -dsimp [go_sem]
        refine gs_app Tryz.Su8 hG4 (ys := p.map u8) (m := p.length) (hrq.nw n4) (by simp) (one_u8 _) (by omega) (by omega) n4.size ?_
        intro v5 w5 hG5 hk5
        have n5 : Nw wq w5 := Nw.fr n4 hk5 (Nat.le_refl _)
        rw [← List.map_append] at hG5
        have hB5 : Bs w5 v5 ([] ++ p) wq.heap.size := Bs.of_gs hG5 (by simp [hm4])
        refine ⟨.inr n5, ?_⟩
        obtain ⟨Q6, F6, hM6, hG6, hK6⟩ := refM_set1 hM2 n5 i hlt2 hB5
        rw [hL2i] at hM6
        simp only at hM6
        rw [hold2] at hM6
        obtain ⟨B5, d5, rfl, ho5, hA5⟩ := id hB5
        have b15 := (hM2.nw n5).blk.cell 1
        have hc2q5 := n5.cell_some hc2q fun h => h
        have hf15 := (hM2.nw n5).own.frozen (i * 3 + 1)
        obtain ⟨lp, hlp⟩ : ∃ lp, lp = ([] ++ p).length := ⟨_, rfl⟩
        rw [← hlp] at hM6 hG6 hK6 ⊢
        simp -dsimp [go_sem, b15, hlt2, hc2q5, hf15]
        have hfs : mapv Prod.fst (tLay L s ((⟨[] ++ p, 0⟩ : Fil), Value.slice B5 lp d5)) = tLay D.fs s ⟨[] ++ p, 0⟩ := by rw [mapv_lay, he]
        have hR6 : RefD _ x { D with fs := tLay D.fs s ⟨[] ++ p, 0⟩ } F6 := ⟨_, _, _, _, hfs, hM6⟩
        refine ⟨n5, ?_⟩
        refine call (rdid_spec x _ F6 _ hR6 (fun n hn => by have := ok.left n hn; omega)) ?_
        rintro v w7 ⟨rfl, hR7, hk7⟩
        have hx6 : F2 x := hM2.inn x (.inl rfl)
        rw [e0]
        simp -dsimp [go_sem]
        exact ⟨F6, hR7, Gr.wide (Gr.trans hGq hG6 hKq.size hK6.size) n2.size hk7.size, ((Nw.kp n2 F).trans (Kp.gr hKq hGq hK6) fun _ _ h => h).trans hk7 fun k _ e => by rw [show k = x from e]; exact h0.inn x (.inl rfl)⟩
      | some q =>
        obtain ⟨f, vv⟩ := q
        have hlk' : tLook D.fs s = some f := by rw [hlk, ht]; rfl
        rw [if_neg (by rw [hlk']; simp; omega), hlk'] at e0
        simp only [Option.getD_some] at e0
        have hub : f.b.length ≤ 1073741824 := by
          have h2 := sumv_ge (fun f : Fil => f.b.length) hlk'
          have h5 : D.used = sumv (fun f : Fil => f.b.length) D.fs := rfl
          omega
        have hat := sp_at hsr ht
        have hlt := (List.getElem?_eq_some_iff.1 hat).1
        have hLi := (List.getElem?_eq_some_iff.1 hat).2
        have hmem : (s, (f, vv)) ∈ L := List.mem_of_getElem? hat
        obtain ⟨B, d, hv, hrB, hd, hq⟩ := h3.bytes _ hmem
        simp only at hv hrB hd
        obtain ⟨_, c1, _⟩ := fc_at L (spN L s) hlt
        have hold := fun f' => sp_old hsr ht f'
        rw [hLi] at c1
        simp only at c1
        subst hv
        obtain ⟨g, rfl⟩ := h3.own.some (by omega)
        obtain ⟨b, o, e1, hc1⟩ := h3.own.rd _ _ c1
        cases e1
        rw [Nat.zero_add] at hc1
        generalize spN L s = i at *
        generalize w2.drew = w3 at *
        have kd3 : Nw w3 w3.drew := (Kp.refl _ _).drew
        have b13 : w3.cell? ⟨x, 1, none⟩ = some (.slice (some ⟨g, 0, none⟩) L.length c) := h3.blk.cell 1
        have b13d := kd3.cell_some b13 fun h => h
        have hc1d := kd3.cell_some hc1 fun h => h
        simp -dsimp [go_sem, b0d, hw, cU, cU']
        refine drawD (.take 0 (.take 1 (.take 2 (.take 3 (.take 4 (.take 6 (.take 7 (.take 8 (.take 9 (.take 10 (.take 11 (.take 12 (.take 13 (.take 15 (.alt 5 (.alt 14 (.alt 16 (.alt 17 (.alt 18 (.alt 19 .done .stop) .stop) .stop) .stop) .stop) .stop))))))))))))))) 19 (by kernel_rfl) (fun wz => Nw w3 wz) kd3 ?_
        simp -dsimp [go_sem, b13d, hlt, hc1d]
        have ka2 : Nw w3 (w3.alloc (.cells #[] 5)).drew := ((Kp.refl _ _).alloc _).drew
        refine ⟨fun wz hz => by simp [hz.cell_some b13 fun h => h], fun wz hz => by simp [hz.cell_some hc1 fun h => h], ka2, ?_⟩
        refine gs_app Tryz.Su8 (B := w3.heap.size) ((Gs.made w3 5 1 0 #[] rfl rfl rfl (by simp [maxLen]) (Nat.le_refl _)).nw ((Kp.refl _ _).drew)) (ys := f.b.map u8) (m := f.b.length) (hrB.nw ka2) (by simp) (one_u8 _) (by omega) (by omega) ka2.size ?_
        intro v4 w4 hG4 hk4
        have n4 : Nw w3 w4 := Nw.fr ka2 hk4 (Nat.le_refl _)
        rw [List.nil_append] at hG4
        refine ⟨.inr n4, ?_⟩
        obtain ⟨m4, hm4⟩ : ∃ m4, m4 = 0 + f.b.length := ⟨_, rfl⟩
        rw [← hm4] at hG4
        obtain ⟨A4, c4, rfl, ho4, hA4⟩ := id hG4
        simp -dsimp [go_sem]
        refine gs_app Tryz.Su8 hG4 (ys := p.map u8) (m := p.length) ((hr.nw n3).nw n4) (by simp) (one_u8 _) (by omega) (by omega) n4.size ?_
        intro v5 w5 hG5 hk5
        have n5 : Nw w3 w5 := Nw.fr n4 hk5 (Nat.le_refl _)
        rw [← List.map_append] at hG5
        have hB5 : Bs w5 v5 (f.b ++ p) w3.heap.size := Bs.of_gs hG5 (by rw [List.length_append]; omega)
        refine ⟨.inr n5, ?_⟩
        obtain ⟨Q6, F6, hM6, hG6, hK6⟩ := refM_set1 h3 n5 i hlt hB5
        rw [hLi] at hM6
        simp only at hM6
        rw [← hold] at hM6
        obtain ⟨B5, d5, rfl, ho5, hA5⟩ := id hB5
        have b15 := (h3.nw n5).blk.cell 1
        have hc15 := n5.cell_some hc1 fun h => h
        have hf15 := (h3.nw n5).own.frozen (i * 3 + 1)
        obtain ⟨lp, hlp⟩ : ∃ lp, lp = (f.b ++ p).length := ⟨_, rfl⟩
        rw [← hlp] at hM6 hG6 hK6 ⊢
        simp -dsimp [go_sem, b15, hlt, hc15, hf15]
        have hfs : mapv Prod.fst (tLay L s ((⟨f.b ++ p, f.l⟩ : Fil), Value.slice B5 lp d5)) = tLay D.fs s ⟨f.b ++ p, f.l⟩ := by rw [mapv_lay, he]
        have hR6 : RefD _ x { D with fs := tLay D.fs s ⟨f.b ++ p, f.l⟩ } F6 := ⟨_, _, _, _, hfs, hM6⟩
        refine ⟨n5, ?_⟩
        refine call (rdid_spec x _ F6 _ hR6 (fun n hn => by have := ok.left n hn; omega)) ?_
        rintro v w7 ⟨rfl, hR7, hk7⟩
        have hx6 : F x := h3.inn x (.inl rfl)
        rw [e0]
        simp -dsimp [go_sem]
        exact ⟨F6, hR7, Gr.wide hG6 n3.size hk7.size, ((Nw.kp n3 F).trans hK6 fun _ _ h => h).trans hk7 fun k _ e => by rw [show k = x from e]; exact hx6⟩
  · have hz' : ((mayL D [s] : Int) != 0) = true := by simp; omega
    rw [if_pos hz] at e0
    rw [e0]
    simp -dsimp [go_sem, hz']
    exact ⟨F, h.nw ka, fun k hk => .inl hk, Nw.kp ka F⟩
end Go.Proofs.YthonmjgagblogaaGreat
