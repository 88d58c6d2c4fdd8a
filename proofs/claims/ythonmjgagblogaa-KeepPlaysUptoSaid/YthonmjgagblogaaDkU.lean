/-
  The reference's disk: Rename walked. By the session itself.
-/
import Derived.Test.YthonmjgagblogaaDkT
namespace Go.Proofs.Ythonmjgagblogaa
set_option linter.unusedSimpArgs false
set_option linter.unusedVariables false
set_option maxRecDepth 100000
set_option maxHeartbeats 1000000
open Go.Vc Go.RowKit

theorem lay_gone {β : Type} {l : List (Nm × β)} (hl : Srt l) (s : Nm) (f : β) : tLay (tGone l s) s f = tLay l s f :=
  tLook_ext ((hl.tGone s).tLay s f) (hl.tLay s f) fun t => by
    rw [tLook_lay, tLook_lay, tLook_gone hl]
    split <;> rfl
theorem lay_same {β : Type} {l : List (Nm × β)} (hl : Srt l) {s : Nm} {f : β} (h : tLook l s = some f) : tLay l s f = l :=
  tLook_ext (hl.tLay s f) hl fun t => by
    rw [tLook_lay]
    split
    · rename_i e; rw [e, h]
    · rfl
theorem rrename_spec (a b : Nm) (x : Nat) (D : Dsk) (F : Nat → Prop) (w : World) (h : RefD w x D F) (ok : D.Ok) (hal : a.length ≤ 9223372036854775807) (hbl : b.length ≤ 9223372036854775807) :
    Cal Try.prog 61 #[.pointer (some ⟨x, 0, none⟩), str a, str b] w fun v w' => v = i64 (dRename D a b).2 ∧ ∃ F', RefD w' x (dRename D a b).1 F' ∧ Gr F F' w w' ∧ Kp F w w' := by
  have hm := fun w1 (k : Nw w w1) (A : Option Addr) (c : Nat) (hr : Rd w1 A ([a, b].map fun s => str s)) => rmay_spec [a, b] A c x D F w1 (h.nw k) hr (by simp) (by simpa using ⟨hal, hbl⟩)
  obtain ⟨L, A, c, Q, he, h0⟩ := id h
  have hll := h0.lenL he ok
  have hsr := h0.srt he ok
  have hlk := dRead_look he a
  have hFx := h0.inn x (.inl rfl)
  have hxl := h0.lt x hFx
  refine enter Try.mixed Try.func61 rfl (by kernel_rfl) ?_
  have ka : Nw w (w.alloc (.cells #[str a, str b] 9)) := (Kp.refl _ _).alloc _
  simp -dsimp [go_sem]
  refine call (hm _ ka (some ⟨w.heap.size, 0, none⟩) 2 (Rd.fresh rfl rfl)) ?_
  rintro v w1 ⟨rfl, rfl⟩
  have e0 : dRename D a b = if mayL D [a, b] ≠ 0 then (D, mayL D [a, b]) else match tLook D.fs a with
    | none => (D, 7)
    | some x => (Dsk.done { D with fs := tLay (tGone D.fs a) b x }, 0) := rfl
  by_cases hz : mayL D [a, b] = 0
  · rw [hz]
    rw [if_neg (by simp [hz])] at e0
    simp -dsimp [go_sem]
    refine call (rspot_spec a x D.room c D.left L A Q F _ (h0.nw ka) hll hsr) ?_
    rintro v w2 ⟨rfl, hk2⟩
    have n2 := ka.nw hk2
    have h2 := h0.nw n2
    cases ht : tLook L a with
    | none =>
      rw [hlk, ht] at e0
      simp only [Option.map_none] at e0
      rw [e0]
      simp -dsimp [go_sem]
      exact ⟨F, h.nw n2, fun k hk => .inl hk, Nw.kp n2 F⟩
    | some q =>
      obtain ⟨f, vv⟩ := q
      have hlk' : tLook D.fs a = some f := by rw [hlk, ht]; rfl
      rw [hlk'] at e0
      simp only at e0
      by_cases hab : a = b
      · subst hab
        rw [lay_gone ok.srt, lay_same ok.srt hlk'] at e0
        simp -dsimp [go_sem]
        refine call (rdid_spec x _ F _ (h.nw n2) (fun n hn => by have := ok.left n hn; omega)) ?_
        rintro v w3 ⟨rfl, hR3, hk3⟩
        rw [e0]
        simp -dsimp [go_sem]
        exact ⟨F, hR3, fun k hk => .inl hk, (Nw.kp n2 F).trans hk3 fun k _ (e : k = x) => e ▸ hFx⟩
      have hat := sp_at hsr ht
      have hlt := (List.getElem?_eq_some_iff.1 hat).1
      have hmem : (a, (f, vv)) ∈ L := List.mem_of_getElem? hat
      have hLi := (List.getElem?_eq_some_iff.1 hat).2
      obtain ⟨B, d, hv, hrB, hd, hq⟩ := h2.bytes _ hmem
      simp only at hv hrB hd
      subst hv
      obtain ⟨c0, c1, c2⟩ := fc_at L (spN L a) hlt
      rw [hLi] at c0 c1 c2
      simp only at c0 c1 c2
      obtain ⟨g, rfl⟩ := h2.own.some (by omega)
      obtain ⟨_, _, e1, hc0⟩ := h2.own.rd _ _ c0
      cases e1
      obtain ⟨_, _, e1, hc1⟩ := h2.own.rd _ _ c1
      cases e1
      obtain ⟨_, _, e1, hc2⟩ := h2.own.rd _ _ c2
      cases e1
      rw [Nat.zero_add] at hc0 hc1 hc2
      have b1 : w2.cell? ⟨x, 1, none⟩ = some (.slice (some ⟨g, 0, none⟩) L.length c) := h2.blk.cell 1
      have h2' : ∀ k, Q k → F k := fun k hk => h0.inn k (.inr (.inr hk))
      generalize spN L a = i at *
      have hab' : (a == b) = false := by simpa using hab
      simp -dsimp [go_sem, hab', b1, hlt, hc0, hc1, hc2]
      have kt := (Kp.refl (fun _ => False) w2).alloc (.cells #[str b, .slice B f.b.length d, i64 f.l] 94)
      have hy4 := Blk.new w2 94 #[str b, .slice B f.b.length d, i64 f.l]
      obtain ⟨y, hyw⟩ : ∃ y, y = w2.heap.size := ⟨_, rfl⟩
      rw [← hyw] at hy4 ⊢
      have hyx : y ≠ x := by have := n2.size; omega
      have h4 := h2.nw kt
      have hrB4 := hrB.nw kt
      have n4 := n2.nw kt
      have hFy : ∀ k, F k → k < y := fun k hk => by have := h0.lt k hk; have := n2.size; omega
      have hBQ : Off B (fun k => k = x ∨ y ≤ k) := Off.of_blk fun k hk hk' => by
        have h1 := hq k hk
        have h2 := (h2.offq k h1).1
        have h3 := hFy k (h2' k h1)
        rcases hk' with e | e <;> omega
      have hy4l := hy4.lt
      rw [show (Value.string ⟨b.toArray⟩) = str b from rfl]
      generalize w2.alloc (.cells #[str b, .slice B f.b.length d, i64 f.l] 94) = w4 at *
      refine call (rgoneM_spec a x D.room c D.left L _ Q F w4 h4 hll hsr) ?_
      rintro v w5 ⟨rfl, A5, c5, F5, h5, hG5, hK5⟩
      have hlen5 : (tGone L a).length ≤ 4096 := by rw [gone_len]; split <;> omega
      simp -dsimp [go_sem]
      refine call (rgoneM_spec b x D.room c5 D.left (tGone L a) A5 Q F5 w5 h5 hlen5 (hsr.tGone a)) ?_
      rintro v w6 ⟨rfl, A6, c6, F6, h6, hG6, hK6⟩
      obtain ⟨L6, hL6⟩ : ∃ L6, L6 = tGone (tGone L a) b := ⟨_, rfl⟩
      have hsr6 : Srt L6 := by rw [hL6]; exact (hsr.tGone a).tGone b
      have hlen6 : L6.length ≤ 4096 := by rw [hL6, gone_len]; split <;> omega
      have ht6 : tLook L6 b = none := by rw [hL6, tLook_gone (hsr.tGone a), if_pos rfl]
      rw [← hL6] at h6
      simp -dsimp [go_sem]
      refine call (rspot_spec b x D.room c6 D.left L6 A6 Q F6 w6 h6 hlen6 hsr6) ?_
      rintro v w7 ⟨rfl, hk7⟩
      have h7 := h6.nw hk7
      have hK47 : Kp (At x) w4 w7 := (hK5.trans hK6 fun _ _ h => h).nw hk7
      have hy7 := hy4.kp hK47 (by show ¬ y = x; exact hyx)
      have hrB7 := hrB4.kp hK47 (fun aa ha _ (e : aa.block = x) => hBQ aa ha (.inl e))
      have hG47 : Gr F F6 w4 w6 := Gr.trans hG5 hG6 hK5.size hK6.size
      have hsp6 := fun f' => sp_new hsr6 ht6 f'
      have hi6 := sp_le L6 b
      generalize spN L6 b = j at *
      have hlc := h7.own.2.1
      have hjc : j ≤ c6 := by omega
      have b17 : w7.cell? ⟨x, 1, none⟩ = some (.slice A6 L6.length c6) := h7.blk.cell 1
      have hone1 : ∀ u ∈ fc (L6.take j), u.oneCell' = true := fc_one _ fun q hq => h7.slices q (List.mem_of_mem_take hq)
      have hone2 : ∀ u ∈ fc (L6.drop j), u.oneCell' = true := fc_one _ fun q hq => h7.slices q (List.mem_of_mem_drop hq)
      have hlen1 : (L6.take j).length = j := by simp [Nat.min_eq_left hi6]
      have hlen2 : (L6.drop j).length = L6.length - j := by simp
      have kaf : Nw w7 (w7.alloc (.cells #[] 94)) := (Kp.refl _ _).alloc _
      have b1f := kaf.cell_some b17 fun h => h
      simp -dsimp [go_sem, b1f, hi6, hjc]
      refine gs_app SFile (B := w7.heap.size) (Gs.made w7 94 3 0 #[] rfl rfl rfl (by simp [maxLen]) (Nat.le_refl _)) (ys := fc (L6.take j)) (m := j) (by rw [← fc_take _ _ hi6]; exact (h7.own.rd.nw kaf).take _) (by rw [fc_len, hlen1]) hone1 (by omega) (by omega) kaf.size ?_
      intro v8 w8 hG8 hk8
      have n8 : Nw w7 w8 := Nw.fr kaf hk8 (Nat.le_refl _)
      rw [List.nil_append] at hG8
      obtain ⟨m8, hm8⟩ : ∃ m8, m8 = 0 + j := ⟨_, rfl⟩
      rw [← hm8] at hG8
      obtain ⟨A8, e8, rfl, ho8, hA8⟩ := id hG8
      have hy8 := hy7.kp n8 fun h => h
      have yc0 := hy8.cell 0
      have yc1 := hy8.cell 1
      have yc2 := hy8.cell 2
      simp -dsimp [go_sem, yc0, yc1, yc2]
      have kb : Nw w8 (w8.alloc (.cells #[str b, .slice B f.b.length d, i64 f.l] 94)) := (Kp.refl _ _).alloc _
      refine gs_app SFile (hG8.nw kb) (ys := fc [(b, (f, .slice B f.b.length d))]) (Rd.fresh rfl rfl) (m := 1) (by rw [fc_len]; rfl) (fc_one _ fun q hq => by simp at hq; subst hq; exact ⟨B, _, d, rfl⟩) (by omega) (by omega) (Nat.le_trans n8.size kb.size) ?_
      intro v9 w9 hG9 hk9
      have n9 : Nw w7 w9 := Nw.fr (n8.nw kb) hk9 (Nat.le_refl _)
      rw [← fc_app] at hG9
      obtain ⟨m9, hm9⟩ : ∃ m9, m9 = m8 + 1 := ⟨_, rfl⟩
      rw [← hm9] at hG9
      obtain ⟨A9, e9, rfl, ho9, hA9⟩ := id hG9
      have b19 := n9.cell_some b17 fun h => h
      simp -dsimp [go_sem, b19, hi6, hjc]
      have hrX := rd_cut3 (h7.own.rd.nw n9) (c := c6) (m := j) (by rw [fc_len]; omega)
      rw [fc_drop _ _ hi6] at hrX
      refine gs_app SFile hG9 (ys := fc (L6.drop j)) hrX (m := L6.length - j) (by rw [fc_len, hlen2]) hone2 (by omega) (by omega) n9.size ?_
      intro v10 w10 hG10 hk10
      have n10 : Nw w7 w10 := Nw.fr n9 hk10 (Nat.le_refl _)
      rw [← fc_app] at hG10
      obtain ⟨m10, hm10⟩ : ∃ m10, m10 = m9 + (L6.length - j) := ⟨_, rfl⟩
      rw [← hm10] at hG10
      obtain ⟨A10, e10, rfl, ho10, hA10⟩ := id hG10
      have b110 := n10.cell_some b17 fun h => h
      have h10 := h7.nw n10
      have b1f := h10.blk.frozen 1
      simp -dsimp [go_sem, b110, b1f]
      obtain ⟨L10, hL10⟩ : ∃ L10 : RL, L10 = L6.take j ++ (b, (f, .slice B f.b.length d)) :: L6.drop j := ⟨_, rfl⟩
      have e62 : L6.take j ++ [(b, (f, Value.slice B f.b.length d))] ++ L6.drop j = L10 := by rw [hL10]; simp
      rw [e62] at ho10
      have hm102 : m10 = L10.length := by rw [hL10, hm10, hm9, hm8]; simp; omega
      have hlay10 : L10 = tLay L6 b (f, .slice B f.b.length d) := by rw [hL10, hsp6]
      have hQ6 : ∀ k, Q k → F6 k := fun k hk => h6.inn k (.inr (.inr hk))
      obtain ⟨F11, hM11, hG11, hK11⟩ := refM_setL (Q' := Q) h7 n10 hm102 ho10 hA10 (fun q' hq' => by
        rw [hL10] at hq'
        rcases List.mem_append.1 hq' with hq' | hq'
        · exact h10.bytes q' (List.mem_of_mem_take hq')
        · rcases List.mem_cons.1 hq' with rfl | hq'
          · exact ⟨B, d, rfl, hrB7.nw n10, hd, hq⟩
          · exact h10.bytes q' (List.mem_of_mem_drop hq')) (fun k hk => .inl hk) (fun k hk hb => by
        obtain ⟨aa, ha, rfl⟩ := blk_of hb
        have h1 := hA10 aa ha
        have h2 := h7.lt _ (h7.inn _ (.inr (.inr hk)))
        omega)
      rw [hm102] at hM11 hG11 hK11 ⊢
      generalize w10.setCell ⟨x, 1, none⟩ (.slice A10 L10.length e10) = w11 at *
      have hfs : mapv Prod.fst L10 = tLay (tGone D.fs a) b f := by
        rw [hlay10, mapv_lay, hL6, mapv_gone, mapv_gone, he, lay_gone (ok.srt.tGone a)]
      have hR11 : RefD w11 x { D with fs := tLay (tGone D.fs a) b f } F11 := ⟨_, _, _, _, hfs, hM11⟩
      refine call (rdid_spec x _ F11 _ hR11 (fun n hn => by have := ok.left n hn; omega)) ?_
      rintro v w12 ⟨rfl, hR12, hk12⟩
      rw [e0]
      simp -dsimp [go_sem]
      have hK011 : Kp F w w7 := ((Nw.kp n4 F).trans (hK47.mono fun k _ (e : k = x) => e ▸ hFx) fun _ _ h => h)
      have hG07 : Gr F F6 w w7 := Gr.wide hG47 n4.size hk7.size
      have hG011 : Gr F F11 w w11 := Gr.trans hG07 hG11 hK011.size hK11.size
      exact ⟨F11, hR12, Gr.wide hG011 (Nat.le_refl _) hk12.size, (Kp.gr hK011 hG07 hK11).trans hk12 fun k _ (e : k = x) => e ▸ hFx⟩
  · have hz' : ((mayL D [a, b] : Int) != 0) = true := by simp; omega
    rw [if_pos hz] at e0
    rw [e0]
    simp -dsimp [go_sem, hz']
    exact ⟨F, h.nw ka, fun k hk => .inl hk, Nw.kp ka F⟩
end Go.Proofs.Ythonmjgagblogaa
