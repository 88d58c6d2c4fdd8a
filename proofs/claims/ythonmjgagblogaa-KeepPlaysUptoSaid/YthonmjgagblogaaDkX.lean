/-
  The reference's disk: Copy walked. By the session itself.
-/
import Derived.Test.YthonmjgagblogaaDkW
namespace Go.Proofs.Ythonmjgagblogaa
set_option linter.unusedSimpArgs false
set_option linter.unusedVariables false
set_option maxRecDepth 100000
set_option maxHeartbeats 1000000
open Go.Vc Go.RowKit

/-- A file more. -/
theorem refM_push {w w2 : World} {y room c c2 n2 B0 : Nat} {left : Option Nat} {L : RL} {A A2 : Option Addr} {Q F : Nat → Prop} {nm : Nm} {b : List UInt8} {l : Nat} {v : Value} (h : RefM w y room left L A c Q F) (hB : Bs w v b B0) (hF : ∀ k, F k → k < B0) (hBw : B0 ≤ w.heap.size)
    (ho : Ow w2 94 3 A2 n2 c2 (fc (L ++ [((nm, ((⟨b, l⟩ : Fil), v)) : Nm × Fil × Value)]))) (hn : n2 = (L ++ [((nm, ((⟨b, l⟩ : Fil), v)) : Nm × Fil × Value)]).length) (hK : Kp (blk A) w w2) (hAA : ∀ k, blk A2 k → blk A k ∨ w.heap.size ≤ k) :
    ∃ Q' F', RefM (w2.setCell ⟨y, 1, none⟩ (.slice A2 n2 c2)) y room left (L ++ [((nm, ((⟨b, l⟩ : Fil), v)) : Nm × Fil × Value)]) A2 c2 Q' F' ∧ (∀ k, F' k → F k ∨ B0 ≤ k) ∧ Kp F w (w2.setCell ⟨y, 1, none⟩ (.slice A2 n2 c2)) := by
  subst hn
  have hFy : F y := h.inn y (.inl rfl)
  have hyB := hF y hFy
  have hs : Kp (At y) w2 (w2.setCell ⟨y, 1, none⟩ (.slice A2 (L ++ [((nm, ((⟨b, l⟩ : Fil), v)) : Nm × Fil × Value)]).length c2)) := (Kp.refl _ _).setCell_at _ _
  obtain ⟨B, d, hv, hoB, hB0⟩ := hB
  have hBk : ∀ k, blk B k → B0 ≤ k ∧ k < w.heap.size := fun k hk => by
    obtain ⟨a, ha, rfl⟩ := blk_of hk
    exact ⟨hB0 a ha, hoB.lt a ha⟩
  have hAF : ∀ k, blk A k → F k := fun k hk => h.inn k (.inr (.inl hk))
  have hA2y : Off A2 (At y) := Off.of_blk fun k hk (e : k = y) => by
    rcases hAA k hk with h1 | h1
    · obtain ⟨a, ha, e2⟩ := blk_of h1
      exact h.offx a ha (by show a.block = y; omega)
    · have := h.lt y hFy; omega
  refine ⟨fun k => Q k ∨ blk B k, fun k => F k ∨ blk B k ∨ blk A2 k, ⟨?_, ho.kp hs hA2y, fun q hq => ?_, fun k hk => ?_, hA2y, fun k hk => ?_, fun k hk => ?_⟩, fun k hk => ?_, (hK.mono fun k _ hk => hAF k hk).trans hs fun k _ (e : k = y) => e ▸ hFy⟩
  · have h1 := (h.blk.kp hK fun e => by obtain ⟨a, ha, e2⟩ := blk_of e; exact h.offx a ha e2).set 1 (.slice A2 (L ++ [((nm, ((⟨b, l⟩ : Fil), v)) : Nm × Fil × Value)]).length c2)
    simpa using h1
  · rcases List.mem_append.1 hq with hq | hq
    · exact ((((h.bytes q hq).kp hK fun i hi e => (h.offq i hi).2 e)).kp hs fun i hi (e : i = y) => (h.offq i hi).1 e).mono fun k hk => .inl hk
    · obtain rfl := List.mem_singleton.1 hq
      refine ⟨B, d, hv, ((hoB.kp hK (Off.of_blk fun k hk e => ?_)).kp hs (Off.of_blk fun k hk (e : k = y) => ?_)).rd, hoB.2.1, fun k hk => .inr hk⟩
      · have h1 := hF k (hAF k e); have h2 := (hBk k hk).1; omega
      · have h2 := (hBk k hk).1; omega
  · rcases hk with rfl | hk | hk | hk
    · exact .inl hFy
    · exact .inr (.inr hk)
    · exact .inl (h.inn k (.inr (.inr hk)))
    · exact .inr (.inl hk)
  · rcases hk with hk | hk
    · refine ⟨(h.offq k hk).1, fun e => ?_⟩
      rcases hAA k e with h1 | h1
      · exact (h.offq k hk).2 h1
      · have := h.lt k (h.inn k (.inr (.inr hk))); omega
    · have h2 := hBk k hk
      refine ⟨by omega, fun e => ?_⟩
      rcases hAA k e with h1 | h1
      · have := hF k (hAF k h1); omega
      · omega
  · have hs2 : w2.heap.size ≤ (w2.setCell ⟨y, 1, none⟩ (.slice A2 (L ++ [((nm, ((⟨b, l⟩ : Fil), v)) : Nm × Fil × Value)]).length c2)).heap.size := hs.size
    rcases hk with hk | hk | hk
    · have := h.lt k hk; have := hK.size; omega
    · have := hBk k hk; have := hK.size; omega
    · obtain ⟨a, ha, rfl⟩ := blk_of hk
      have := ho.lt a ha; omega
  · rcases hk with hk | hk | hk
    · exact .inl hk
    · exact .inr (hBk k hk).1
    · rcases hAA k hk with h1 | h1
      · exact .inl (hAF k h1)
      · exact .inr (Nat.le_trans hBw h1)
theorem rcopy_spec (x : Nat) (D : Dsk) (F : Nat → Prop) (w : World) (h : RefD w x D F) (ok : D.Ok) :
    Cal Try.prog 15 #[.pointer (some ⟨x, 0, none⟩)] w fun v w' => ∃ y F', v = .pointer (some ⟨y, 0, none⟩) ∧ RefD w' y ⟨D.room, D.fs, none⟩ F' ∧ Nf w F' ∧ Nw w w' := by
  obtain ⟨L, A, c, Q, he, h0⟩ := h
  have hll := h0.lenL he ok
  have b0 := h0.blk.cell 0
  refine enter Try.mixed Try.func15 rfl (by kernel_rfl) ?_
  simp -dsimp [go_sem, b0]
  simp [go_sem]
  have kx : Nw w (w.alloc (.cells #[i64 D.room, .slice none 0 0, i64 (-1)] 88)) := (Kp.refl _ _).alloc _
  have hy0 : Blk (w.alloc (.cells #[i64 D.room, .slice none 0 0, i64 (-1)] 88)) w.heap.size 88 #[i64 D.room, .slice none 0 0, i64 (-1)] := Blk.new _ _ _
  obtain ⟨y, hy⟩ : ∃ y, y = w.heap.size := ⟨_, rfl⟩
  rw [← hy] at hy0 ⊢
  have hM0 : RefM (w.alloc (.cells #[i64 D.room, .slice none 0 0, i64 (-1)] 88)) y D.room none [] none 0 (fun _ => False) (At y) :=
    ⟨hy0, Ow.nil _ _ _, by simp, fun k hk => by
      rcases hk with e | e | e
      · exact e
      · exact e.elim
      · exact e.elim, by simp [Off], fun k h => h.elim, fun k (e : k = y) => e ▸ hy0.lt⟩
  generalize w.alloc (.cells #[i64 D.room, .slice none 0 0, i64 (-1)] 88) = w0 at *
  refine loop [4, 5, 12, 13, 14, 15, 16, 17, 18, 19, 20, 21, 22, 23, 24, 25, 26, 27, 28, 29, 30, 31, 32, 33, 34, 35, 36, 37, 38, 39, 40, 41, 42] (by kernel_rfl)
    (fun f w' => Box1 (fun a w' => ∃ (i : Nat) (L' : RL) (A' : Option Addr) (c' : Nat) (Q' F' : Nat → Prop), a = i64 i ∧ i ≤ L.length ∧ L'.length = i ∧ mapv Prod.fst L' = D.fs.take i ∧ RefM w' y D.room none L' A' c' Q' F' ∧ (∀ k, F' k → y ≤ k) ∧ Nw w w') (f 4) w') (fun f _ => L.length - (intOf (f 4)).toNat)
    ⟨0, [], none, 0, _, At y, rfl, Nat.zero_le _, rfl, rfl, hM0, fun k (e : k = y) => by omega, kx⟩ ?_
  rintro f w1 ⟨i, L1, A1, c1, Q1, F1, f4, hi, hL1, hm1, h1, hF1, n1⟩
  have hX1 := h0.nw n1
  have b1 : w1.cell? ⟨x, 1, none⟩ = some (.slice A L.length c) := hX1.blk.cell 1
  by_cases hlt : i < L.length
  · have hltD : i < D.fs.length := by
      have : D.fs.length = L.length := by rw [← he]; simp [mapv]
      omega
    have hDi : D.fs[i] = (L[i].1, L[i].2.1) := by simp [← he, mapv]
    have htk : D.fs.take (i + 1) = D.fs.take i ++ [(L[i].1, L[i].2.1)] := by rw [List.take_succ_eq_append_getElem hltD, hDi]
    obtain ⟨B, d, hv, hrB, hd, hq⟩ := hX1.bytes _ (List.getElem_mem hlt)
    obtain ⟨k0, k1, k2⟩ := fc_at L i hlt
    rw [hv] at k1
    obtain ⟨g, rfl⟩ := hX1.own.some (by omega)
    obtain ⟨_, _, e3, hc0⟩ := hX1.own.rd _ _ k0
    cases e3
    obtain ⟨_, _, e3, hc1⟩ := hX1.own.rd _ _ k1
    cases e3
    obtain ⟨_, _, e3, hc2⟩ := hX1.own.rd _ _ k2
    cases e3
    rw [Nat.zero_add] at hc0 hc1 hc2
    have hlook : tLook D.fs L[i].1 = some L[i].2.1 := (tLook_mem ok.srt).2 (by rw [← hDi]; exact List.getElem_mem hltD)
    have hxu : L[i].2.1.b.length ≤ D.used := sumv_ge (fun f : Fil => f.b.length) hlook
    have hu1 := ok.used
    have hu2 := ok.room
    generalize L[i].1 = nm at *
    generalize L[i].2.1 = x0 at *
    have hi1 : IntKind.i64.wrap ((i : Int) + 1) = ((i + 1 : Nat) : Int) := w64 (by omega) (by omega)
    obtain ⟨i1, hi1'⟩ : ∃ i1, i1 = i + 1 := ⟨_, rfl⟩
    rw [← hi1'] at hi1 htk
    simp -dsimp [go_sem, f4, b1, hlt, hc0, hc1, hc2]
    have kz : Nw w1 (w1.alloc (.cells #[str nm, .slice B x0.b.length d, i64 x0.l] 94)) := (Kp.refl _ _).alloc _
    have hz0 := Blk.new w1 94 #[str nm, .slice B x0.b.length d, i64 x0.l]
    obtain ⟨z, hz⟩ : ∃ z, z = w1.heap.size := ⟨_, rfl⟩
    have hzs : (w1.alloc (.cells #[str nm, .slice B x0.b.length d, i64 x0.l] 94)).heap.size = z + 1 := by simp [hz]
    rw [← hz] at hz0 ⊢
    have hF1z : ∀ k, F1 k → k < z := fun k hk => by have := h1.lt k hk; omega
    have hw1z : w.heap.size ≤ z := by have := n1.size; omega
    have hyz : y < z := hF1z y (h1.inn y (.inl rfl))
    have h2 := h1.nw kz
    have hrB2 := hrB.nw kz
    have n2 := n1.nw kz
    rw [show (Value.string ⟨nm.toArray⟩) = str nm from rfl]
    generalize w1.alloc (.cells #[str nm, .slice B x0.b.length d, i64 x0.l] 94) = w2 at *
    have ka : Nw w2 (w2.alloc (.cells #[] 5)) := (Kp.refl _ _).alloc _
    refine gs_app Try.Su8 (B := z + 1) (Gs.made w2 5 1 0 #[] (by omega) rfl rfl (by simp [maxLen]) (by omega)) (ys := x0.b.map u8) (m := x0.b.length) (hrB2.nw ka) (by simp) (one_u8 _) (by omega) (by omega) (by have := ka.size; omega) ?_
    intro v4 w4 hG4 hk4
    have n24 : Nw w2 w4 := Nw.fr ka hk4 (by omega)
    rw [List.nil_append] at hG4
    have hB4 : Bs w4 v4 x0.b (z + 1) := Bs.of_gs hG4 (by omega)
    have hz4 := hz0.kp n24 fun h => h
    have z1 := hz4.cell 1
    have zf1 := hz4.frozen 1
    obtain ⟨A4, c4, rfl, ho4, hA4⟩ := id hB4
    simp -dsimp [go_sem, z1, zf1]
    have ks : Kp (At z) w4 (w4.setCell ⟨z, 1, none⟩ (.slice A4 x0.b.length c4)) := (Kp.refl _ _).setCell_at _ _
    have hz5 : Blk (w4.setCell ⟨z, 1, none⟩ (.slice A4 x0.b.length c4)) z 94 #[str nm, .slice A4 x0.b.length c4, i64 x0.l] := by simpa using hz4.set 1 (.slice A4 x0.b.length c4)
    have hB5 : Bs (w4.setCell ⟨z, 1, none⟩ (.slice A4 x0.b.length c4)) (.slice A4 x0.b.length c4) x0.b (z + 1) := hB4.kp ks fun i hi _ (e : i = z) => by omega
    have h5 := (h2.nw n24).kp ks fun i hi (e : i = z) => by have := hF1z i hi; omega
    have n5 := (n2.nw n24).at_ ks fun k (e : k = z) => by omega
    have hz5l := hz5.lt
    generalize w4.setCell ⟨z, 1, none⟩ (.slice A4 x0.b.length c4) = w5 at *
    have y1 : w5.cell? ⟨y, 1, none⟩ = some (.slice A1 L1.length c1) := h5.blk.cell 1
    have z50 : w5.cell? ⟨z, 0, none⟩ = some (str nm) := hz5.cell 0
    have z51 : w5.cell? ⟨z, 1, none⟩ = some (.slice A4 x0.b.length c4) := hz5.cell 1
    have z52 : w5.cell? ⟨z, 2, none⟩ = some (i64 x0.l) := hz5.cell 2
    have hAF : ∀ k, blk A1 k → k < z := fun k hk => hF1z k (h1.inn k (.inr (.inl hk)))
    have hyA : ¬ blk A1 y := fun e => by obtain ⟨a, ha, e2⟩ := blk_of e; exact h1.offx a ha e2
    have hzA : ¬ blk A1 z := fun e => by have := hAF z e; omega
    have kd : Kp (blk A1) w5 w5.drew := (Kp.refl _ _).drew
    have y1d := kd.cell_some y1 hyA
    have z50d := kd.cell_some z50 hzA
    have z51d := kd.cell_some z51 hzA
    have z52d := kd.cell_some z52 hzA
    refine drawD (.take 0 (.take 1 (.take 2 (.take 3 (.take 4 (.take 5 (.alt 6 (.alt 7 (.alt 8 (.alt 9 (.alt 10 .done .stop) .stop) .stop) .stop) .stop))))))) 10 (by kernel_rfl) (fun wz => Kp (blk A1) w5 wz) kd ?_
    simp -dsimp [go_sem, y1d, z50d, z51d, z52d]
    have kb : Nw w5 (w5.alloc (.cells #[str nm, .slice A4 x0.b.length c4, i64 x0.l] 94)).drew := ((Kp.refl _ _).alloc _).drew
    refine ⟨fun wz hz => by simp [hz.cell_some y1 hyA], fun wz hz => by simp [hz.cell_some z50 hzA, hz.cell_some z51 hzA, hz.cell_some z52 hzA], Nw.kp kb _, ?_⟩
    have h6 := h5.nw kb
    have hfcone : ∀ u ∈ fc [((nm, ((⟨x0.b, x0.l⟩ : Fil), Value.slice A4 x0.b.length c4)) : Nm × Fil × Value)], u.oneCell' = true := fc_one _ fun q hq => by simp at hq; subst hq; exact ⟨A4, _, c4, rfl⟩
    refine app SFile h6.own (ys := fc [((nm, ((⟨x0.b, x0.l⟩ : Fil), Value.slice A4 x0.b.length c4)) : Nm × Fil × Value)]) ((Rd.fresh (w := w5) rfl rfl).nw ((Kp.refl _ _).drew)) (m := 1) (by rw [fc_len]; rfl) hfcone (by omega) (by omega) ?_
    intro A7 c7 w7 ho7 hk7 hAA7
    rw [← fc_app] at ho7
    have hk57 : Kp (blk A1) w5 w7 := (Nw.kp kb _).trans hk7 fun _ _ h => h
    refine ⟨.inr hk57, ?_⟩
    have hn7 : L1.length + 1 = (L1 ++ [((nm, ((⟨x0.b, x0.l⟩ : Fil), Value.slice A4 x0.b.length c4)) : Nm × Fil × Value)]).length := by simp
    have y17 := hk57.cell_some y1 hyA
    have yf17 := (h5.blk.kp hk57 hyA).frozen 1
    obtain ⟨Q8, F8, hM8, hF8, hK8⟩ := refM_push (B0 := z) h6 ((hB5.mono (by omega)).nw kb) hF1z (by have := kb.size; omega) ho7 hn7 hk7 (fun k hk => by
      rcases hAA7 with rfl | ⟨rfl, _⟩
      · exact .inl hk
      · exact .inr (by rw [show k = _ from hk]; exact Nat.le_refl _))
    have n8 : Nw w (w7.setCell ⟨y, 1, none⟩ (.slice A7 (L1.length + 1) c7)) := (n5.nw kb).at_ hK8 fun k hk => by have := hF1 k hk; omega
    obtain ⟨l7, hl7⟩ : ∃ l7, l7 = L1.length + 1 := ⟨_, rfl⟩
    rw [← hl7] at hM8 n8 ⊢
    simp -dsimp [go_sem, y17, yf17, f4, hi1]
    refine ⟨hk57, ⟨i1, _, A7, c7, Q8, F8, rfl, by omega, by simp; omega, ?_, hM8, fun k hk => ?_, n8⟩, by simp [intOf]; omega⟩
    · rw [htk, ← hm1]; simp [mapv]
    · rcases hF8 k hk with h | h
      · exact hF1 k h
      · omega
  · obtain rfl : i = L.length := by omega
    have hfl : D.fs.length = L.length := by rw [← he]; simp [mapv]
    rw [← hfl, List.take_length] at hm1
    simp -dsimp [go_sem, f4, b1]
    exact ⟨F1, ⟨L1, A1, c1, Q1, hm1, h1⟩, fun k hk => by have := hF1 k hk; omega, n1⟩
end Go.Proofs.Ythonmjgagblogaa
