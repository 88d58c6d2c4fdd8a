/-
  The reference's disk: remove, Remove walked. By the session itself.
-/
import Derived.Test.YthonmjgagblogaaGreatDkPm
import Derived.Test.YthonmjgagblogaaGreatVd
namespace Go.Proofs.YthonmjgagblogaaGreat
set_option linter.unusedSimpArgs false
set_option linter.unusedVariables false
set_option maxRecDepth 100000
set_option maxHeartbeats 1000000
open Go.Vc Go.RowKit

/-- Another row of files, in a block that is new. -/
theorem refM_setL {w2 w4 : World} {x room c n c' : Nat} {left : Option Nat} {L L' : RL} {A A' : Option Addr} {Q Q' F : Nat → Prop} (h : RefM w2 x room left L A c Q F) (hK : Nw w2 w4) (hn : n = L'.length) (ho : Ow w4 56 3 A' n c' (fc L')) (hA : ∀ a, A' = some a → w2.heap.size ≤ a.block)
    (hb : ∀ q ∈ L', Bv w4 q.2.2 q.2.1.b Q') (hQ : ∀ k, Q' k → Q k ∨ w2.heap.size ≤ k ∧ k < w4.heap.size) (hQA : ∀ k, Q' k → ¬ blk A' k) :
    ∃ F', RefM (w4.setCell ⟨x, 1, none⟩ (.slice A' n c')) x room left L' A' c' Q' F' ∧ Gr F F' w2 (w4.setCell ⟨x, 1, none⟩ (.slice A' n c')) ∧ Kp F w2 (w4.setCell ⟨x, 1, none⟩ (.slice A' n c')) := by
  subst hn
  have hFx := h.inn x (.inl rfl)
  have hxl := h.lt x hFx
  have hs : Kp (At x) w4 (w4.setCell ⟨x, 1, none⟩ (.slice A' L'.length c')) := (Kp.refl _ _).setCell_at _ _
  have hAn : ∀ k, blk A' k → w2.heap.size ≤ k ∧ k < w4.heap.size := fun k hk => by
    obtain ⟨a, ha, rfl⟩ := blk_of hk
    exact ⟨hA a ha, ho.lt a ha⟩
  have hoff : Off A' (At x) := fun a ha e => by
    have := hA a ha
    have e : a.block = x := e
    omega
  have hQx : ∀ k, Q' k → k ≠ x := fun k hk e => by
    rcases hQ k hk with h1 | ⟨h1, _⟩
    · exact (h.offq k h1).1 e
    · omega
  refine ⟨fun k => F k ∨ blk A' k ∨ Q' k, ⟨by simpa using (h.blk.kp hK fun h => h).set 1 _, ho.kp hs hoff, fun q hq => (hb q hq).kp hs fun k hk e => hQx k hk e, fun k hk => ?_, hoff, fun k hk => ⟨hQx k hk, hQA k hk⟩, fun k hk => Nat.lt_of_lt_of_le ?_ hs.size⟩, fun k hk => ?_, (Nw.kp hK F).trans hs fun k _ e => by rw [show k = x from e]; exact hFx⟩
  · rcases hk with e | e | e
    · rw [e]; exact .inl hFx
    · exact .inr (.inl e)
    · exact .inr (.inr e)
  · rcases hk with e | e | e
    · exact Nat.lt_of_lt_of_le (h.lt k e) hK.size
    · exact (hAn k e).2
    · rcases hQ k e with e | e
      · exact Nat.lt_of_lt_of_le (h.lt k (h.inn k (.inr (.inr e)))) hK.size
      · exact e.2
  · rcases hk with e | e | e
    · exact .inl e
    · exact .inr ⟨(hAn k e).1, Nat.lt_of_lt_of_le (hAn k e).2 hs.size⟩
    · rcases hQ k e with e | e
      · exact .inl (h.inn k (.inr (.inr e)))
      · exact .inr ⟨e.1, Nat.lt_of_lt_of_le e.2 hs.size⟩
theorem rd_cut3 {w : World} {A : Option Addr} {xs : List Value} {c m : Nat} (h : Rd w A xs) (hc : xs.length ≤ c * 3) : Rd w (if c = m then A else A.map fun a => a.add (m * 3)) (xs.drop (m * 3)) := by
  split
  · rename_i e
    rw [List.drop_eq_nil_of_le (by omega)]
    exact Rd.nil _ _
  · exact h.drop' (m * 3)
theorem fc_one (L : RL) (hb : ∀ q ∈ L, ∃ B n d, q.2.2 = .slice B n d) : ∀ u ∈ fc L, u.oneCell' = true := by
  intro u hu
  obtain ⟨p, hp, h⟩ := List.mem_flatMap.1 hu
  obtain ⟨B, n, d, e⟩ := hb p hp
  simp at h
  rcases h with rfl | rfl | rfl
  · rfl
  · rw [e]; rfl
  · rfl
theorem RefM.slices {w : World} {x room c : Nat} {left : Option Nat} {L : RL} {A : Option Addr} {Q F : Nat → Prop} (h : RefM w x room left L A c Q F) : ∀ q ∈ L, ∃ B n d, q.2.2 = .slice B n d := fun q hq => by
  obtain ⟨B, d, e, _⟩ := h.bytes q hq
  exact ⟨B, _, d, e⟩
theorem rgoneM_spec (s : Nm) (x room c : Nat) (left : Option Nat) (L : RL) (A : Option Addr) (Q F : Nat → Prop) (w : World) (h : RefM w x room left L A c Q F) (hll : L.length ≤ 4096) (hsr : Srt L) :
    Cal Tryz.prog 65 #[.pointer (some ⟨x, 0, none⟩), str s] w fun v w' => v = .tuple #[] ∧ ∃ A' c' F', RefM w' x room left (tGone L s) A' c' Q F' ∧ Gr F F' w w' ∧ Kp (At x) w w' := by
  have hgo := trivial
  refine enter Tryz.mixed Tryz.func65 rfl (by kernel_rfl) ?_
  simp -dsimp [go_sem]
  refine call (rspot_spec s x room c left L A Q F w h hll hsr) ?_
  rintro v w1 ⟨rfl, hk1⟩
  have h1 := h.nw hk1
  cases ht : tLook L s with
  | none =>
    rw [gone_none ht]
    simp -dsimp [go_sem]
    exact ⟨A, c, F, h1, fun k hk => .inl hk, Nw.kp hk1 _⟩
  | some q =>
    have hat := sp_at hsr ht
    have hlt := (List.getElem?_eq_some_iff.1 hat).1
    rw [sp_gone hsr ht]
    generalize spN L s = i at *
    have b1 : w1.cell? ⟨x, 1, none⟩ = some (.slice A L.length c) := h1.blk.cell 1
    have kd : Nw w1 w1.drew := (Kp.refl _ _).drew
    have b1d := kd.cell_some b1 fun h => h
    have hlc := h1.own.2.1
    have hic : i ≤ c := by omega
    have hi1 : IntKind.i64.wrap ((i : Int) + 1) = ((i + 1 : Nat) : Int) := w64 (by omega) (by omega)
    have hi1c : i + 1 ≤ L.length := by omega
    have hil : i ≤ L.length := by omega
    have hlen1 : (L.take i).length = i := by simp [Nat.min_eq_left hil]
    have hlen2 : (L.drop (i + 1)).length = L.length - (i + 1) := by simp
    obtain ⟨i1, hi1'⟩ : ∃ i1, i1 = i + 1 := ⟨_, rfl⟩
    rw [← hi1'] at hi1 hi1c hlen2 ⊢
    have hone1 : ∀ u ∈ fc (L.take i), u.oneCell' = true := fc_one _ fun q hq => h1.slices q (List.mem_of_mem_take hq)
    have hone2 : ∀ u ∈ fc (L.drop i1), u.oneCell' = true := fc_one _ fun q hq => h1.slices q (List.mem_of_mem_drop hq)
    simp -dsimp [go_sem]
    refine drawD (.take 0 (.take 2 (.take 3 (.take 4 (.take 5 (.take 6 (.take 7 (.take 9 (.take 10 (.take 11 (.take 12 (.take 13 (.take 14 (.take 15 (.alt 1 (.alt 8 (.alt 16 (.alt 17 (.alt 18 (.alt 19 .done .stop) .stop) .stop) .stop) .stop) .stop))))))))))))))) 19 (by kernel_rfl) (fun wz => Nw w1 wz) kd ?_
    simp -dsimp [go_sem, b1d, hic, hil, hi1, hi1c]
    have ka : Nw w1 (w1.alloc (.cells #[] 56)).drew := ((Kp.refl _ _).alloc _).drew
    refine ⟨fun wz hz => by simp [hz.cell_some b1 fun h => h], ka, ?_⟩
    refine gs_app SFile (B := w1.heap.size) ((Gs.made w1 56 3 0 #[] rfl rfl rfl (by simp [maxLen]) (Nat.le_refl _)).nw ((Kp.refl _ _).drew)) (ys := fc (L.take i)) (m := i) (by rw [← fc_take _ _ hil]; exact (h1.own.rd.nw ka).take _) (by rw [fc_len, hlen1]) hone1 (by omega) (by omega) ka.size ?_
    intro v2 w2 hG2 hk2
    have n2 : Nw w1 w2 := Nw.fr ka hk2 (Nat.le_refl _)
    rw [List.nil_append] at hG2
    obtain ⟨m2, hm2⟩ : ∃ m2, m2 = 0 + i := ⟨_, rfl⟩
    rw [← hm2] at hG2
    obtain ⟨A2, c2, rfl, ho2, hA2⟩ := id hG2
    refine ⟨.inr n2, ?_⟩
    simp -dsimp [go_sem]
    have hrX := rd_cut3 (h1.own.rd.nw n2) (c := c) (m := i1) (by rw [fc_len]; omega)
    rw [fc_drop _ _ hi1c] at hrX
    refine gs_app SFile hG2 (ys := fc (L.drop i1)) hrX (m := L.length - i1) (by rw [fc_len, hlen2]) hone2 (by omega) (by omega) n2.size ?_
    intro v3 w3 hG3 hk3
    have n3 : Nw w1 w3 := Nw.fr n2 hk3 (Nat.le_refl _)
    rw [← fc_app] at hG3
    obtain ⟨m3, hm3⟩ : ∃ m3, m3 = m2 + (L.length - i1) := ⟨_, rfl⟩
    rw [← hm3] at hG3
    obtain ⟨A3, c3, rfl, ho3, hA3⟩ := id hG3
    refine ⟨.inr n3, ?_⟩
    have b13 := (h1.nw n3).blk.cell 1
    have b13f := (h1.nw n3).blk.frozen 1
    simp -dsimp [go_sem, b13, b13f]
    have hfl : m3 = (L.take i ++ L.drop i1).length := by rw [List.length_append, hlen1, hlen2]; omega
    obtain ⟨F', hR', hG', hK'⟩ := refM_setL h1 n3 hfl ho3 hA3 (Q' := Q) (fun q hq => by
      have hq' : q ∈ L := by
        rcases List.mem_append.1 hq with hq | hq
        · exact List.mem_of_mem_take hq
        · exact List.mem_of_mem_drop hq
      exact (h1.bytes q hq').kp n3 fun _ _ h => h) (fun k hk => .inl hk) (fun k hk e => by
      obtain ⟨a, ha, rfl⟩ := blk_of e
      have h5 := hA3 a ha
      have h6 := h1.lt _ (h1.inn _ (.inr (.inr hk)))
      omega)
    exact ⟨n3, _, _, F', hR', Gr.wide hG' hk1.size (Nat.le_refl _), (Nw.kp hk1 _).trans ((Nw.kp n3 (At x)).trans ((Kp.refl _ _).setCell_at _ _) fun _ _ h => h) fun _ _ h => h⟩
theorem rgone_spec (s : Nm) (x : Nat) (D : Dsk) (F : Nat → Prop) (w : World) (h : RefD w x D F) (ok : D.Ok) :
    Cal Tryz.prog 65 #[.pointer (some ⟨x, 0, none⟩), str s] w fun v w' => v = .tuple #[] ∧ ∃ F', RefD w' x { D with fs := tGone D.fs s } F' ∧ Gr F F' w w' ∧ Kp F w w' := by
  obtain ⟨L, A, c, Q, he, h⟩ := h
  refine (rgoneM_spec s x D.room c D.left L A Q F w h (h.lenL he ok) (h.srt he ok)).mono ?_
  rintro v w' ⟨rfl, A', c', F', hM, hG, hK⟩
  exact ⟨rfl, F', ⟨_, _, _, _, by rw [mapv_gone, he], hM⟩, hG, hK.mono fun k _ (e : k = x) => e ▸ h.inn x (.inl rfl)⟩
theorem rremove_spec (s : Nm) (x : Nat) (D : Dsk) (F : Nat → Prop) (w : World) (h : RefD w x D F) (ok : D.Ok) (hsl : s.length ≤ 9223372036854775807) :
    Cal Tryz.prog 31 #[.pointer (some ⟨x, 0, none⟩), str s] w fun v w' => v = i64 (dStep fRemove D s).2 ∧ ∃ F', RefD w' x (dStep fRemove D s).1 F' ∧ Gr F F' w w' ∧ Kp F w w' := by
  have hm := fun w1 (k : Nw w w1) (A : Option Addr) (c : Nat) (hr : Rd w1 A ([s].map fun s => str s)) => rmay_spec [s] A c x D F w1 (h.nw k) hr (by simp) (by simpa using hsl)
  obtain ⟨L, A, c, Q, he, h0⟩ := id h
  have hll := h0.lenL he ok
  have hsr := h0.srt he ok
  have hlk := dRead_look he s
  refine enter Tryz.mixed Tryz.func31 rfl (by kernel_rfl) ?_
  have ka : Nw w (w.alloc (.cells #[str s] 9)) := (Kp.refl _ _).alloc _
  simp -dsimp [go_sem]
  refine call (hm _ ka (some ⟨w.heap.size, 0, none⟩) 1 (Rd.fresh rfl rfl)) ?_
  rintro v w1 ⟨rfl, rfl⟩
  have e0 : dStep fRemove D s = if mayL D [s] ≠ 0 then (D, mayL D [s]) else match tLook D.fs s with
    | none => (D, 7)
    | some x => ((fRemove D s x).done, 0) := rfl
  by_cases hz : mayL D [s] = 0
  · rw [hz]
    rw [if_neg (by simp [hz])] at e0
    simp -dsimp [go_sem]
    refine call (rspot_spec s x D.room c D.left L A Q F _ (h0.nw ka) hll hsr) ?_
    rintro v w2 ⟨rfl, hk2⟩
    have n2 := ka.nw hk2
    cases ht : tLook L s with
    | none =>
      rw [hlk, ht] at e0
      rw [e0]
      simp -dsimp [go_sem]
      exact ⟨F, h.nw n2, fun k hk => .inl hk, Nw.kp n2 F⟩
    | some q =>
      rw [hlk, ht] at e0
      rw [e0]
      simp -dsimp [go_sem]
      refine call (rgone_spec s x D F w2 (h.nw n2) ok) ?_
      rintro v w3 ⟨rfl, F3, hR3, hG3, hK3⟩
      simp -dsimp [go_sem]
      refine call (rdid_spec x _ F3 _ hR3 (fun n hn => by have := ok.left n hn; omega)) ?_
      rintro v w4 ⟨rfl, hR4, hk4⟩
      have hx3 : F3 x := by
        obtain ⟨_, _, _, _, _, h5⟩ := hR3
        exact h5.inn x (.inl rfl)
      simp -dsimp [go_sem]
      exact ⟨F3, hR4, Gr.wide hG3 n2.size hk4.size, Kp.gr ((Nw.kp n2 F).trans hK3 fun _ _ h => h) (Gr.wide hG3 n2.size (Nat.le_refl _)) (hk4.mono fun k _ e => by rw [show k = x from e]; exact hx3)⟩
  · have hz' : ((mayL D [s] : Int) != 0) = true := by simp; omega
    rw [if_pos hz] at e0
    rw [e0]
    simp -dsimp [go_sem, hz']
    exact ⟨F, h.nw ka, fun k hk => .inl hk, Nw.kp ka F⟩
end Go.Proofs.YthonmjgagblogaaGreat
