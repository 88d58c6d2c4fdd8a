/-
  A change as bytes: Encode walked. By the session itself. A state as bytes: image walked. By the session itself.
-/
import Derived.Test.YtipdndmfngpbfaaGreatDoorQ25
import Derived.Test.YtipdndmfngpbfaaGreatDoorQ11
import Derived.Test.YtipdndmfngpbfaaGreatDoorQ23
namespace Go.Proofs.YtipdndmfngpbfaaGreatDoor
set_option linter.unusedSimpArgs false
set_option linter.unusedVariables false
set_option maxRecDepth 100000
set_option maxHeartbeats 2000000
open Go.Vc Go.RowKit

/-- What a change's parts may measure. -/
structure CSz (c : Chg) : Prop where
  user : c.user.length ≤ 140737488355328
  pass : c.pass.length ≤ 140737488355328
  box : c.box.length ≤ 140737488355328
  to : c.to.length ≤ 140737488355328
  uids : c.uids.length ≤ 140737488355328
  body : c.body.length ≤ 140737488355328
  ui : ∀ n ∈ c.uids, -9223372036854775808 ≤ n ∧ n ≤ 9223372036854775807
theorem Chg.Ok.sz {c : Chg} (h : c.Ok) : CSz c := ⟨by have := h.user; omega, by have := h.pass; omega, by have := h.box; omega, by have := h.to; omega, by have := h.uids.2; omega, by have := h.body; omega, fun n hn => by have := h.uids.1 n hn; omega⟩
theorem isChangeZ (v : Value) (c : Chg) (w : World) (h : RC w v c (fun _ => False)) (hs : CSz c) : Cal Tryz.prog 40 #[v] w fun v' w' => v' = .bool (chgOk c) ∧ Nw w w' :=
  isChange_spec v c w h (by have := hs.user; simp [ByteArray.size]; omega) (by have := hs.pass; omega) (by have := hs.box; simp [ByteArray.size]; omega) (by have := hs.to; simp [ByteArray.size]; omega) (by have := hs.uids; omega) hs.ui
/-- What Encode hands back. -/
def EncCR (v : Value) (w : World) (c : Chg) (B : Nat) : Prop := (chgOk c = true ∧ ∃ u, v = .tuple #[u, i64 0] ∧ Bs w u (encC c) B) ∨ (chgOk c = false ∧ v = .tuple #[.slice none 0 0, i64 1])
theorem convN (l : Nm) (w : World) : ∃ c w', convR Tryz.prog 9 23 (str l) w = .ok (.slice (some ⟨w.heap.size, 0, none⟩) l.length c) w' ∧ l.length ≤ c ∧ Nw w w' ∧ Rd w' (some ⟨w.heap.size, 0, none⟩) (l.map u8) ∧ w.heap.size < w'.heap.size := by
  obtain ⟨c, w', h1, h2, h3, h4, h5⟩ := conv_bytes2 (P := Tryz.prog) (src := 9) (dst := 23) (e := 5) (by kernel_rfl) (by kernel_rfl) (by kernel_rfl) ⟨l.toArray⟩ w
  exact ⟨c, w', h1, h2, h3, h4, h5⟩
theorem rowsB_len4 (c : Chg) (h1 : c.user.length ≤ 12) (h2 : c.pass.length ≤ 12) (h3 : c.box.length ≤ 12) (h4 : c.to.length ≤ 12) : (rowsB [c.user, c.pass, c.box, c.to]).length ≤ 100 := by
  have a1 := rowB_lenq (l := c.user) (by omega)
  have a2 := rowB_lenq (l := c.pass) (by omega)
  have a3 := rowB_lenq (l := c.box) (by omega)
  have a4 := rowB_lenq (l := c.to) (by omega)
  simp only [rowsB, List.flatMap_cons, List.flatMap_nil, List.length_append, List.length_nil]
  omega
theorem sencode_spec (v : Value) (c : Chg) (w : World) (h : RC w v c (fun _ => False)) (hs : CSz c) : Cal Tryz.prog 14 #[v] w fun v' w' => EncCR v' w' c w.heap.size ∧ Nw w w' := by
  have hRC := h
  obtain ⟨A, ca, B, cb, rfl, hca, hcb, hrA, _, hrB, _⟩ := h
  refine enter Tryz.mixed Tryz.func14 rfl (by kernel_rfl) ?_
  simp -dsimp [go_sem]
  have k0 : Nw w (w.alloc (.cells (chV c A ca B cb) 25)) := (Kp.refl _ _).alloc _
  have hy := Blk.new w 25 (chV c A ca B cb)
  obtain ⟨y, hy'⟩ : ∃ y, y = w.heap.size := ⟨_, rfl⟩
  rw [← hy'] at hy ⊢
  obtain ⟨ul, hul⟩ : ∃ ul, ul = c.uids.length := ⟨_, rfl⟩
  obtain ⟨bl, hbl⟩ : ∃ bl, bl = c.body.length := ⟨_, rfl⟩
  generalize w.alloc (.cells (chV c A ca B cb) 25) = wa at *
  refine call (isChangeZ _ c wa (hRC.nw k0) hs) ?_
  rintro v w1 ⟨rfl, k1⟩
  cases hok : chgOk c with
  | false =>
    simp -dsimp [go_sem]
    exact ⟨.inr ⟨hok, rfl⟩, k0.nw k1⟩
  | true =>
    have hX := chgOk_ok hok
    have u1 := hX.user; have u2 := hX.pass; have u3 := hX.box; have u4 := hX.to; have u5 := hX.uids.2; have u6 := hX.body
    have n1 := k0.nw k1
    have hy1 := hy.nw k1
    have hyl := hy1.lt
    have kb : Nw w1 (w1.alloc (.cells #[.slice none 0 0] 85)) := (Kp.refl _ _).alloc _
    have hg0 := Blk.new w1 85 #[.slice none 0 0]
    obtain ⟨g, hg⟩ : ∃ g, g = w1.heap.size := ⟨_, rfl⟩
    have hyb := hy1.nw kb
    have n2 := n1.nw kb
    simp -dsimp [go_sem]
    rw [← hg] at hg0 ⊢
    have hgl := hg0.lt
    have hW0 : Wr (w1.alloc (.cells #[.slice none 0 0] 85)) g [] (At g) :=
      ⟨none, 0, hg0, Ow.nil _ _ _, (fun a ha => by cases ha), (fun k hk => hk.elim id fun h => h.elim), fun k (e : k = g) => by omega⟩
    generalize w1.alloc (.cells #[.slice none 0 0] 85) = wb at *
    have y0 := (hyb).cell 0
    have y1 := (hyb).cell 1
    have y2 := (hyb).cell 2
    have y3 := (hyb).cell 3
    have y4 := (hyb).cell 4
    have y5 := (hyb).cell 5
    have y6 := (hyb).cell 6
    have y7 := (hyb).cell 7
    have y8 := (hyb).cell 8
    have y9 := (hyb).cell 9
    replace y5 := (y5).trans (show _ = some (Value.slice A ul ca) by rw [hul]; rfl)
    replace y9 := (y9).trans (show _ = some (Value.slice B bl cb) by rw [hbl]; rfl)
    simp -dsimp [go_sem, y0]
    have kd : Nw wb (wb.alloc (.cells #[i64 c.kind] 3)) := (Kp.refl _ _).alloc _
    refine call (wNums_spec g [] [c.kind] (At g) (some ⟨wb.heap.size, 0, none⟩) 1 _ (hW0.kp_ kd fun _ _ h => h) (Rd.fresh rfl rfl) (fun a ha _ (e : a.block = g) => by cases ha; simp at e; omega) (by simp)) ?_
    rintro v w3 ⟨rfl, F3, hW3, hG3, hK3⟩
    have hy3 := (hyb.nw kd).kp hK3 fun (e : y = g) => by omega
    have sg3 : g ≤ w3.heap.size := Nat.le_trans (Nat.le_of_lt hgl) (Nat.le_trans kd.size hK3.size)
    have nF3 : ∀ k, F3 k → g ≤ k := fun k hk => (hG3 k hk).elim (fun (e : k = g) => by omega) fun e => by have := kd.size; omega
    have n3 : Nw w w3 := (n2.nw kd).at_ hK3 fun k (e : k = g) => by have := k0.size; have := k1.size; omega
    have hwg : w.heap.size ≤ g := by have := k0.size; have := k1.size; omega
    clear y0 y1 y2 y3 y4 y5 y6 y7 y8 y9
    have y0 := (hy3).cell 0
    have y1 := (hy3).cell 1
    have y2 := (hy3).cell 2
    have y3 := (hy3).cell 3
    have y4 := (hy3).cell 4
    have y5 := (hy3).cell 5
    have y6 := (hy3).cell 6
    have y7 := (hy3).cell 7
    have y8 := (hy3).cell 8
    have y9 := (hy3).cell 9
    replace y5 := (y5).trans (show _ = some (Value.slice A ul ca) by rw [hul]; rfl)
    replace y9 := (y9).trans (show _ = some (Value.slice B bl cb) by rw [hbl]; rfl)
    obtain ⟨d1, v1, hc1, hl1, kc1, hr1, ht1⟩ := convN c.user w3
    have hy4 := hy3.nw kc1
    clear y0 y1 y2 y3 y4 y5 y6 y7 y8 y9
    have y1 := hy3.cell 1
    have y2 := hy4.cell 2
    simp -dsimp [go_sem, y1, hc1, y2]
    obtain ⟨d2, v2, hc2, hl2, kc2, hr2, ht2⟩ := convN c.pass v1
    have hy5 := hy4.nw kc2
    have y3 := hy5.cell 3
    simp -dsimp [go_sem, hc2, y3]
    obtain ⟨d3, v3, hc3, hl3, kc3, hr3, ht3⟩ := convN c.box v2
    have hy6 := hy5.nw kc3
    have y4 := hy6.cell 4
    simp -dsimp [go_sem, hc3, y4]
    obtain ⟨d4, v4, hc4, hl4, kc4, hr4, ht4⟩ := convN c.to v3
    have hy7 := hy6.nw kc4
    simp -dsimp [go_sem, hc4]
    have k34 : Nw w3 v4 := ((kc1.nw kc2).nw kc3).nw kc4
    have hW4 := hW3.kp_ k34 fun _ _ h => h
    have s1 := kc1.size
    have s2 := kc2.size
    have s3 := kc3.size
    have s4 := kc4.size
    have ke : Nw v4 (v4.alloc (.cells #[.slice (some ⟨w3.heap.size, 0, none⟩) c.user.length d1, .slice (some ⟨v1.heap.size, 0, none⟩) c.pass.length d2, .slice (some ⟨v2.heap.size, 0, none⟩) c.box.length d3, .slice (some ⟨v3.heap.size, 0, none⟩) c.to.length d4] 23)) := (Kp.refl _ _).alloc _
    have hW5 := hW4.kp_ ke fun _ _ h => h
    have hF3l := hW3.lt_
    have hof : ∀ (q : Nat) (xs : List Value), w3.heap.size ≤ q → Ofl (some ⟨q, 0, none⟩) xs F3 := fun q xs hq a ha _ hf => by
      cases ha
      have := hF3l _ hf
      simp at this; omega
    have hRV : RV (v4.alloc (.cells #[.slice (some ⟨w3.heap.size, 0, none⟩) c.user.length d1, .slice (some ⟨v1.heap.size, 0, none⟩) c.pass.length d2, .slice (some ⟨v2.heap.size, 0, none⟩) c.box.length d3, .slice (some ⟨v3.heap.size, 0, none⟩) c.to.length d4] 23)) [.slice (some ⟨w3.heap.size, 0, none⟩) c.user.length d1, .slice (some ⟨v1.heap.size, 0, none⟩) c.pass.length d2, .slice (some ⟨v2.heap.size, 0, none⟩) c.box.length d3, .slice (some ⟨v3.heap.size, 0, none⟩) c.to.length d4] [c.user, c.pass, c.box, c.to] F3 :=
      (((RV.one ((((hr1.nw kc2).nw kc3).nw kc4).nw ke) (hof _ _ (Nat.le_refl _)) hl1).append (RV.one (((hr2.nw kc3).nw kc4).nw ke) (hof _ _ (by omega)) hl2)).append (RV.one ((hr3.nw kc4).nw ke) (hof _ _ (by omega)) hl3)).append (RV.one (hr4.nw ke) (hof _ _ (by omega)) hl4)
    have hbr := hRV.brs (Rd.of_heap (Blk.new v4 23 #[.slice (some ⟨w3.heap.size, 0, none⟩) c.user.length d1, .slice (some ⟨v1.heap.size, 0, none⟩) c.pass.length d2, .slice (some ⟨v2.heap.size, 0, none⟩) c.box.length d3, .slice (some ⟨v3.heap.size, 0, none⟩) c.to.length d4])) (hof _ _ (by omega))
    have q1 := numsB_len [c.kind]
    simp only [List.length_cons, List.length_nil] at q1
    refine call (wBytes_spec g _ [c.user, c.pass, c.box, c.to] F3 _ 4 _ hW5 hbr (by rw [List.nil_append]; simp [load]; omega)) ?_
    rintro v w6 ⟨rfl, F6, hW6, hG6, hK6⟩
    have n5 := (n3.nw k34).nw ke
    have hy8 := (hy7.nw ke).kp hK6 fun e => by have := nF3 y e; omega
    have s5 := ke.size
    have sg5 := Nat.le_trans sg3 (Nat.le_trans k34.size ke.size)
    have sg6 : g ≤ w6.heap.size := Nat.le_trans sg5 hK6.size
    have nF6 : ∀ k, F6 k → g ≤ k := fun k hk => (hG6 k hk).elim (nF3 k) fun e => Nat.le_trans sg5 e.1
    have n6 : Nw w w6 := n5.at_ hK6 fun k hk => by have := nF3 k hk; omega
    have q2 := rowsB_len4 c u1 u2 u3 u4
    have y0 := (hy8).cell 0
    have y1 := (hy8).cell 1
    have y2 := (hy8).cell 2
    have y3 := (hy8).cell 3
    have y4 := (hy8).cell 4
    have y5 := (hy8).cell 5
    have y6 := (hy8).cell 6
    have y7 := (hy8).cell 7
    have y8 := (hy8).cell 8
    have y9 := (hy8).cell 9
    replace y5 := (y5).trans (show _ = some (Value.slice A ul ca) by rw [hul]; rfl)
    replace y9 := (y9).trans (show _ = some (Value.slice B bl cb) by rw [hbl]; rfl)
    clear y1 y2 y3 y4
    obtain ⟨l6, hl6⟩ : ∃ l6, l6 = [] ++ numsB [c.kind] ++ rowsB [c.user, c.pass, c.box, c.to] := ⟨_, rfl⟩
    have hl6l : l6.length ≤ 200 := by rw [hl6, List.nil_append, List.length_append]; omega
    rw [← hl6] at hW6
    simp -dsimp [go_sem, y5]
    have kf : Nw w6 (w6.alloc (.cells #[i64 ul] 3)) := (Kp.refl _ _).alloc _
    refine call (wNums_spec g l6 [(ul : Int)] F6 (some ⟨w6.heap.size, 0, none⟩) 1 _ (hW6.kp_ kf fun _ _ h => h) (Rd.fresh rfl rfl) (fun a ha _ hf => by cases ha; have := hW6.lt_ _ hf; simp at this) (by simp; omega)) ?_
    rintro v w7 ⟨rfl, F7, hW7, hG7, hK7⟩
    have hy9 := (hy8.nw kf).kp hK7 fun e => by have := nF6 y e; omega
    have nF7 : ∀ k, F7 k → g ≤ k := fun k hk => (hG7 k hk).elim (nF6 k) fun e => Nat.le_trans (Nat.le_trans sg6 kf.size) e.1
    have n7 : Nw w w7 := (n6.nw kf).at_ hK7 fun k hk => by have := nF6 k hk; omega
    clear y0 y1 y2 y3 y4 y5 y6 y7 y8 y9
    have y0 := (hy9).cell 0
    have y1 := (hy9).cell 1
    have y2 := (hy9).cell 2
    have y3 := (hy9).cell 3
    have y4 := (hy9).cell 4
    have y5 := (hy9).cell 5
    have y6 := (hy9).cell 6
    have y7 := (hy9).cell 7
    have y8 := (hy9).cell 8
    have y9 := (hy9).cell 9
    replace y5 := (y5).trans (show _ = some (Value.slice A ul ca) by rw [hul]; rfl)
    replace y9 := (y9).trans (show _ = some (Value.slice B bl cb) by rw [hbl]; rfl)
    have q3 := numsB_len [(ul : Int)]
    simp only [List.length_cons, List.length_nil] at q3
    simp -dsimp [go_sem, y5]
    rw [hul]
    refine call (wNums_spec g _ c.uids F7 A ca w7 hW7 (hrA.nw n7) (hrA.ofl fun k hk => by have := nF7 k hk; omega) (by rw [List.length_append]; omega)) ?_
    rintro v w8 ⟨rfl, F8, hW8, hG8, hK8⟩
    have hya := hy9.kp hK8 fun e => by have := nF7 y e; omega
    have sg7 : g ≤ w7.heap.size := Nat.le_trans (Nat.le_trans sg6 kf.size) hK7.size
    have nF8 : ∀ k, F8 k → g ≤ k := fun k hk => (hG8 k hk).elim (nF7 k) fun e => by omega
    have n8 : Nw w w8 := n7.at_ hK8 fun k hk => by have := nF7 k hk; omega
    clear y0 y1 y2 y3 y4 y5 y6 y7 y8 y9
    have y0 := (hya).cell 0
    have y1 := (hya).cell 1
    have y2 := (hya).cell 2
    have y3 := (hya).cell 3
    have y4 := (hya).cell 4
    have y5 := (hya).cell 5
    have y6 := (hya).cell 6
    have y7 := (hya).cell 7
    have y8 := (hya).cell 8
    have y9 := (hya).cell 9
    replace y5 := (y5).trans (show _ = some (Value.slice A ul ca) by rw [hul]; rfl)
    replace y9 := (y9).trans (show _ = some (Value.slice B bl cb) by rw [hbl]; rfl)
    have q4 := numsB_len c.uids
    simp -dsimp [go_sem, y6, y7, y8]
    have kh : Nw w8 (w8.alloc (.cells #[i64 c.mode, i64 c.flags, i64 c.date] 3)) := (Kp.refl _ _).alloc _
    refine call (wNums_spec g _ [c.mode, c.flags, c.date] F8 (some ⟨w8.heap.size, 0, none⟩) 3 _ (hW8.kp_ kh fun _ _ h => h) (Rd.fresh rfl rfl) (fun a ha _ hf => by cases ha; have := hW8.lt_ _ hf; simp at this) (by rw [List.length_append, List.length_append]; simp; omega)) ?_
    rintro v w9 ⟨rfl, F9, hW9, hG9, hK9⟩
    have hyc := (hya.nw kh).kp hK9 fun e => by have := nF8 y e; omega
    have sg8 : g ≤ w8.heap.size := Nat.le_trans sg7 hK8.size
    have nF9 : ∀ k, F9 k → g ≤ k := fun k hk => (hG9 k hk).elim (nF8 k) fun e => by have := kh.size; omega
    have n9 : Nw w w9 := (n8.nw kh).at_ hK9 fun k hk => by have := nF8 k hk; omega
    clear y0 y1 y2 y3 y4 y5 y6 y7 y8 y9
    have y0 := (hyc).cell 0
    have y1 := (hyc).cell 1
    have y2 := (hyc).cell 2
    have y3 := (hyc).cell 3
    have y4 := (hyc).cell 4
    have y5 := (hyc).cell 5
    have y6 := (hyc).cell 6
    have y7 := (hyc).cell 7
    have y8 := (hyc).cell 8
    have y9 := (hyc).cell 9
    replace y5 := (y5).trans (show _ = some (Value.slice A ul ca) by rw [hul]; rfl)
    replace y9 := (y9).trans (show _ = some (Value.slice B bl cb) by rw [hbl]; rfl)
    have q5 := numsB_len [c.mode, c.flags, c.date]
    simp only [List.length_cons, List.length_nil] at q5
    simp -dsimp [go_sem, y9]
    have kj : Nw w9 (w9.alloc (.cells #[.slice B bl cb] 23)) := (Kp.refl _ _).alloc _
    rw [hbl] at kj ⊢
    refine call (wBytes_spec g _ [c.body] F9 (some ⟨w9.heap.size, 0, none⟩) 1 _ (hW9.kp_ kj fun _ _ h => h) (brs_one (Blk.new w9 _ _) (fun e => by have := hW9.lt_ _ e; omega) ((hrB.nw n9).nw kj) (hrB.ofl fun k hk => by have := nF9 k hk; omega) hcb) (by rw [List.length_append, List.length_append, List.length_append]; simp [load]; omega)) ?_
    rintro v w10 ⟨rfl, F10, hW10, hG10, hK10⟩
    have n10 : Nw w w10 := (n9.nw kj).at_ hK10 fun k hk => by have := nF9 k hk; omega
    have he : l6 ++ numsB [(ul : Int)] ++ numsB c.uids ++ numsB [c.mode, c.flags, c.date] ++ rowsB [c.body] = encC c := by
      rw [hl6, hul, List.nil_append]
      rfl
    rw [he] at hW10
    have hel := encC_len hX
    simp -dsimp [go_sem]
    refine call (wOut_spec g (encC c) F10 w10 hW10 (by omega)) ?_
    rintro v w11 ⟨hB11, k11⟩
    simp -dsimp [go_sem]
    exact ⟨.inl ⟨hok, _, rfl, hB11.mono (by have := n10.size; omega)⟩, n10.nw k11⟩
end Go.Proofs.YtipdndmfngpbfaaGreatDoor

namespace Go.Proofs.YtipdndmfngpbfaaGreatDoor
set_option linter.unusedSimpArgs false
set_option linter.unusedVariables false
set_option maxRecDepth 100000
set_option maxHeartbeats 2000000
open Go.Vc Go.RowKit

theorem keysA_lt {β : Type} {l : List (Nm × β)} (h : Srt l) : (keysA l).Pairwise fun x y => x < y := List.pairwise_map.2 (List.Pairwise.imp (R := fun x y : Nm × β => x.1 < y.1) (fun h => h) h)
theorem keysA_len {β : Type} (l : List (Nm × β)) : (keysA l).length = l.length := by simp [keysA]
theorem look_at {β : Type} {l : List (Nm × β)} (h : Srt l) {i : Nat} (hi : i < l.length) : tLook l l[i].1 = some l[i].2 := (tLook_mem h).2 (List.getElem_mem hi)
theorem encU_len {u : Usr} (h : u.Ok) (i : Nat) : ((u.bx.take i).flatMap fun y => rowB (encX y.2)).length ≤ 119236 := by
  have h1 := flat_len (fun y : Nm × Bx => rowB (encX y.2)) 29809 (u.bx.take i) fun y hy => by
    have hb := (h.bx y.1 y.2 ((tLook_mem h.srt).2 (List.mem_of_mem_take hy))).2
    have := encX_len2 hb
    have := rowB_lenq (l := encX y.2) (by omega)
    omega
  have h2 := h.len
  have h3 : (u.bx.take i).length ≤ 4 := by rw [List.length_take]; omega
  have h4 := Nat.mul_le_mul_right 29809 h3
  omega
theorem imgT_len {T : Stt} (h : T.Ok) (i : Nat) : ((T.us.take i).flatMap imgU).length ≤ 477600 := by
  have h1 := flat_len imgU 119400 (T.us.take i) fun x hx => by
    have hu := h.us x.1 x.2 ((tLook_mem h.srt).2 (List.mem_of_mem_take hx))
    exact imgU_len hu.1 hu.2
  have h2 := h.len
  have h3 : (T.us.take i).length ≤ 4 := by rw [List.length_take]; omega
  have h4 := Nat.mul_le_mul_right 119400 h3
  omega
theorem simage_spec (t : Nat) (T : Stt) (F V : Nat → Prop) (w : World) (h : SttA w t T F V) (ok : T.Ok) :
    Cal Tryz.prog 111 #[.pointer (some ⟨t, 0, none⟩)] w fun v w' => Bs w' v (imgS T) w.heap.size ∧ Nw w w' := by
  obtain ⟨r, ptr, rb, vb, Fs, hM⟩ := h
  have hl4 := ok.len
  refine enter Tryz.mixed Tryz.func111 rfl (by kernel_rfl) ?_
  simp -dsimp [go_sem]
  have kb : Nw w (w.alloc (.cells #[.slice none 0 0] 85)) := (Kp.refl _ _).alloc _
  have hg0 := Blk.new w 85 #[.slice none 0 0]
  obtain ⟨g, hg⟩ : ∃ g, g = w.heap.size := ⟨_, rfl⟩
  rw [← hg] at hg0 ⊢
  have hgl := hg0.lt
  have hW0 : Wr (w.alloc (.cells #[.slice none 0 0] 85)) g [] (At g) :=
    ⟨none, 0, hg0, Ow.nil _ _ _, (fun a ha => by cases ha), (fun k hk => hk.elim id fun h => h.elim), fun k (e : k = g) => by omega⟩
  generalize w.alloc (.cells #[.slice none 0 0] 85) = wb at *
  have hMb := hM.nw kb
  have t0 := hMb.blk.cell 0
  have t1 := hMb.blk.cell 1
  have kdr : Nw wb wb.drew := (Kp.refl _ _).drew
  have hlen := fun wz (hz : Kp (At g) wb wz) => len_mp (ty := 3) (w := wz) KL hmu (hMb.mp.kp hz fun (e : r = g) => by have := hM.lt r hM.fr; omega) (keys_nodup ok.srt) (Mu_some ptr T.us)
  have hlen0 := hlen wb.drew (Nw.kp kdr _)
  rw [keysA_len] at hlen hlen0
  have htg : t ≠ g := fun e => by have := hM.lt t hM.ft; omega
  refine draw (.take 0 (.take 1 (.take 2 (.take 3 (.take 4 (.take 5 (.take 6 (.take 7 (.take 8 (.alt 9 (.alt 10 .done .stop) .stop)))))))))) (by kernel_rfl) (fun wz => Kp (At g) wb wz) ((Kp.refl _ _).drew) ?_
  simp -dsimp [go_sem, t0, t1, hlen0]
  have kn : Nw wb (wb.alloc (.cells #[i64 T.next, i64 T.us.length] 3)).drew := ((Kp.refl _ _).alloc _).drew
  refine ⟨fun wz hz => by simp [hz.cell_some t0 htg], fun wz hz => by simp [hz.cell_some t1 htg], fun wz hz => by simp [hlen wz hz], Nw.kp kn _, ?_⟩
  refine call (wNums_spec g [] [T.next, (T.us.length : Int)] (At g) (some ⟨wb.heap.size, 0, none⟩) 2 _ (hW0.kp_ kn fun _ _ h => h) ((Rd.fresh (w := wb) rfl rfl).nw ((Kp.refl _ _).drew)) (fun a ha _ (e : a.block = g) => by cases ha; simp at e; omega) (by simp)) ?_
  rintro v w1 ⟨rfl, F1, hW1, hG1, hK1⟩
  have k1 : Kp (At g) wb w1 := (Nw.kp kn _).trans hK1 fun _ _ h => h
  refine ⟨k1, ?_⟩
  have nF1 : ∀ k, F1 k → g ≤ k := fun k hk => (hG1 k hk).elim (fun (e : k = g) => by omega) fun e => by have := kn.size; omega
  have n1 : Nw w w1 := kb.at_ k1 fun k (e : k = g) => by omega
  have hM1 := hM.nw n1
  have t1' := hM1.blk.cell 1
  obtain ⟨pre, hpre⟩ : ∃ pre, pre = [] ++ numsB [T.next, (T.us.length : Int)] := ⟨_, rfl⟩
  have hprel : pre.length ≤ 18 := by
    rw [hpre, List.nil_append]
    have := numsB_len [T.next, (T.us.length : Int)]
    simpa using this
  rw [← hpre] at hW1
  simp -dsimp [go_sem, t1']
  refine call (keysU_spec r (Mu ptr T.us) (keysA T.us) w1 hM1.mp (keysA_lt ok.srt) (Mu_some ptr T.us) (by rw [keysA_len]; omega)) ?_
  rintro v w2 ⟨k2, A, ca, rfl, hrA, hca, hAl⟩
  rw [keysA_len] at hca ⊢
  have n2 := n1.nw k2
  have sg1 : g < w1.heap.size := Nat.lt_of_lt_of_le hgl k1.size
  have sg2 : w1.heap.size ≤ w2.heap.size := k2.size
  obtain ⟨N, hN⟩ : ∃ N, N = T.us.length := ⟨_, rfl⟩
  rw [← hN] at hl4 ⊢
  simp -dsimp [go_sem]
  refine loop [5, 6, 8, 9, 10, 28, 29, 30, 31, 32, 33, 34, 35, 36, 37, 38, 39, 40, 41, 42, 43, 44, 45, 46, 47, 48, 49, 50, 51, 52, 53, 54, 55, 56, 57, 58, 59, 60, 61, 62, 63, 64, 65, 66, 67, 68, 69, 70, 71, 72, 73, 74, 75, 76, 77, 78] (by kernel_rfl)
    (fun f w' => Box1 (fun a w' => ∃ (i : Nat) (F : Nat → Prop), a = i64 i ∧ i ≤ N ∧ Wr w' g (pre ++ (T.us.take i).flatMap imgU) F ∧ (∀ k, F k → k = g ∨ w2.heap.size ≤ k ∨ F1 k) ∧ Nw w w' ∧ Kp (fun k => k = g ∨ F1 k) w2 w') (f 28) w') (fun f _ => N - (intOf (f 28)).toNat)
    ⟨0, F1, rfl, Nat.zero_le _, by simpa using hW1.kp_ k2 fun _ _ h => h, fun k hk => .inr (.inr hk), n2, Kp.refl _ _⟩ ?_
  rintro f w3 ⟨i, F3, f28, hi, hW3, nF3, n3, k3⟩
  by_cases hlt : i < N
  · have hltL : i < T.us.length := by omega
    have hi1 : IntKind.i64.wrap ((i : Int) + 1) = ((i + 1 : Nat) : Int) := by rw [w64 (by omega) (by omega)]; omega
    obtain ⟨i1, hi1'⟩ : ∃ i1, i1 = i + 1 := ⟨_, rfl⟩
    have htk : (T.us.take i1).flatMap imgU = (T.us.take i).flatMap imgU ++ imgU T.us[i] := by rw [hi1', List.take_succ_eq_append_getElem hltL, List.flatMap_append]; simp
    rw [← hi1'] at hi1
    have hrA3 : Rd w3 A ((keysA T.us).map fun s => str s) := hrA.kp k3 fun a ha _ hk => by
      have := hAl a ha
      rcases hk with hk | hk
      · omega
      · have := hW1.lt_ _ hk; omega
    obtain ⟨gA, oA, rfl, cA⟩ := hrA3 i (str T.us[i].1) (by simp [keysA, hltL])
    have hlk := look_at ok.srt hltL
    have hUO := ok.us _ _ hlk
    have htl := imgT_len ok i
    generalize (T.us.take i).flatMap imgU = cur at *
    generalize T.us[i] = X at *
    obtain ⟨nm, u⟩ := X
    simp only at cA hlk hUO htk
    have hM3 := hM.nw n3
    have t13 := hM3.blk.cell 1
    have hlz := lookup_mp KL hmu (z := .pointer none) (w := w3) rfl hM3.mp nm false
    rw [show Mu ptr T.us nm = some (.pointer (some ⟨ptr nm, 0, none⟩)) by simp [Mu, hlk]] at hlz
    have hlz : (Instr.lookup 123 (.map (some r)) (str nm) false).run Tryz.prog w3 = .ok (.pointer (some ⟨ptr nm, 0, none⟩)) w3 := hlz
    simp -dsimp [go_sem, f28, hlt, cA, t13, hlz]
    obtain ⟨hU, u2, u3, u4⟩ := hM3.us _ _ hlk
    have hub := hUO.2.len
    have unm := (nmOk_len hUO.1).2
    have ups := (passOk_len hUO.2.pass).2
    obtain ⟨d1, v1, hc1, hl1, kc1, hr1, ht1⟩ := convN nm w3
    have hU1 := hU.blk.nw kc1
    have p0 := hU1.cell 0
    simp -dsimp [go_sem, hc1, p0]
    obtain ⟨d2, v2, hc2, hl2, kc2, hr2, ht2⟩ := convN u.pass v1
    simp -dsimp [go_sem, hc2]
    have ke : Nw v2 (v2.alloc (.cells #[.slice (some ⟨w3.heap.size, 0, none⟩) nm.length d1, .slice (some ⟨v1.heap.size, 0, none⟩) u.pass.length d2] 23)) := (Kp.refl _ _).alloc _
    have k35 : Nw w3 (v2.alloc (.cells #[.slice (some ⟨w3.heap.size, 0, none⟩) nm.length d1, .slice (some ⟨v1.heap.size, 0, none⟩) u.pass.length d2] 23)) := (kc1.nw kc2).nw ke
    have hF3l := hW3.lt_
    have hof : ∀ (q : Nat) (xs : List Value), w3.heap.size ≤ q → Ofl (some ⟨q, 0, none⟩) xs F3 := fun q xs hq a ha _ hf => by
      cases ha
      have := hF3l _ hf
      simp at this; omega
    have s1 := kc1.size
    have s2 := kc2.size
    have hRV : RV (v2.alloc (.cells #[.slice (some ⟨w3.heap.size, 0, none⟩) nm.length d1, .slice (some ⟨v1.heap.size, 0, none⟩) u.pass.length d2] 23)) [.slice (some ⟨w3.heap.size, 0, none⟩) nm.length d1, .slice (some ⟨v1.heap.size, 0, none⟩) u.pass.length d2] [nm, u.pass] F3 :=
      (RV.one ((hr1.nw kc2).nw ke) (hof _ _ (Nat.le_refl _)) hl1).append (RV.one (hr2.nw ke) (hof _ _ (by omega)) hl2)
    have hbr := hRV.brs (Rd.of_heap (Blk.new v2 23 #[.slice (some ⟨w3.heap.size, 0, none⟩) nm.length d1, .slice (some ⟨v1.heap.size, 0, none⟩) u.pass.length d2])) (hof _ _ (by omega))
    refine call (wBytes_spec g _ [nm, u.pass] F3 _ 2 _ (hW3.kp_ k35 fun _ _ h => h) hbr (by rw [List.length_append]; simp [load]; omega)) ?_
    rintro v w5 ⟨rfl, F5, hW5, hG5, hK5⟩
    have s23 := k3.size
    have kF5 : Kp (fun k => k = g ∨ F1 k) w2 w5 := (k3.nw k35).trans hK5 fun k hk hf => by
      rcases nF3 k hf with e | e | e
      · exact .inl e
      · omega
      · exact .inr e
    have nF5 : ∀ k, F5 k → k = g ∨ w2.heap.size ≤ k ∨ F1 k := fun k hk => (hG5 k hk).elim (nF3 k) fun e => by have := k35.size; exact .inr (.inl (by omega))
    have n5 : Nw w w5 := n2.at_ kF5 fun k hk => by
      rcases hk with hk | hk
      · omega
      · have := nF1 k hk; omega
    have hM5 := hM.nw n5
    obtain ⟨hU5, _⟩ := hM5.us _ _ hlk
    have p1 := hU5.blk.cell 1
    have hlenb := len_mp (ty := 3) (w := w5) KL hmb hU5.mp (keys_nodup hUO.2.srt) (Mb_some (vb nm) u.bx)
    rw [keysA_len] at hlenb
    have q1 : (rowsB [nm, u.pass]).length ≤ 42 := by
      have a1 := rowB_lenq (l := nm) (by omega)
      have a2 := rowB_lenq (l := u.pass) (by omega)
      simp only [rowsB, List.flatMap_cons, List.flatMap_nil, List.length_append, List.length_nil]
      omega
    simp -dsimp [go_sem, p1, hlenb]
    have kf : Nw w5 (w5.alloc (.cells #[i64 u.bx.length] 3)) := (Kp.refl _ _).alloc _
    refine call (wNums_spec g _ [(u.bx.length : Int)] F5 (some ⟨w5.heap.size, 0, none⟩) 1 _ (hW5.kp_ kf fun _ _ h => h) (Rd.fresh rfl rfl) (fun a ha _ hf => by cases ha; have := hW5.lt_ _ hf; simp at this) (by rw [List.length_append, List.length_append]; simp; omega)) ?_
    rintro v w6 ⟨rfl, F6, hW6, hG6, hK6⟩
    have s25 := kF5.size
    have kF6 : Kp (fun k => k = g ∨ F1 k) w2 w6 := (kF5.nw kf).trans hK6 fun k hk hf => by
      rcases nF5 k hf with e | e | e
      · exact .inl e
      · omega
      · exact .inr e
    have nF6 : ∀ k, F6 k → k = g ∨ w2.heap.size ≤ k ∨ F1 k := fun k hk => (hG6 k hk).elim (nF5 k) fun e => by have := kf.size; exact .inr (.inl (by omega))
    have n6 : Nw w w6 := n2.at_ kF6 fun k hk => by
      rcases hk with hk | hk
      · omega
      · have := nF1 k hk; omega
    have q2 := numsB_len [(u.bx.length : Int)]
    simp only [List.length_cons, List.length_nil] at q2
    obtain ⟨pr2, hpr2⟩ : ∃ pr2, pr2 = pre ++ cur ++ rowsB [nm, u.pass] ++ numsB [(u.bx.length : Int)] := ⟨_, rfl⟩
    have hpr2l : pr2.length ≤ 477700 := by
      rw [hpr2, List.length_append, List.length_append, List.length_append]; omega
    rw [← hpr2] at hW6
    have hM6 := hM.nw n6
    obtain ⟨hU6, _⟩ := hM6.us _ _ hlk
    have p16 := hU6.blk.cell 1
    simp -dsimp [go_sem, p16]
    refine call (keysB_spec (rb nm) (Mb (vb nm) u.bx) (keysA u.bx) w6 hU6.mp (keysA_lt hUO.2.srt) (Mb_some (vb nm) u.bx) (by rw [keysA_len]; omega)) ?_
    rintro v w7 ⟨k7, Z, cz, rfl, hrZ, hcz, hZl⟩
    rw [keysA_len] at hcz ⊢
    obtain ⟨M, hM'⟩ : ∃ M, M = u.bx.length := ⟨_, rfl⟩
    rw [← hM'] at hub hcz ⊢
    have n7 := n6.nw k7
    have kF7 := kF6.nw k7
    have s67 := k7.size
    have s26 := kF6.size
    simp -dsimp [go_sem]
    refine loop [8, 9, 10, 60, 61, 62, 63, 64, 65, 66, 67, 68, 69, 70, 71, 72, 73, 74, 75, 76, 77] (by kernel_rfl)
      (fun f w' => Box1 (fun a w' => ∃ (j : Nat) (F : Nat → Prop), a = i64 j ∧ j ≤ M ∧ Wr w' g (pr2 ++ (u.bx.take j).flatMap fun y => rowB (encX y.2)) F ∧ (∀ k, F k → k = g ∨ w7.heap.size ≤ k ∨ F6 k) ∧ Kp (fun k => k = g ∨ F6 k) w7 w') (f 60) w') (fun f _ => M - (intOf (f 60)).toNat)
      ⟨0, F6, rfl, Nat.zero_le _, by simpa using hW6.kp_ k7 fun _ _ h => h, fun k hk => .inr (.inr hk), Kp.refl _ _⟩ ?_
    rintro f' w8 ⟨j, F8, f60, hj, hW8, nF8, k8⟩
    by_cases hltj : j < M
    · have hltB : j < u.bx.length := by omega
      have hj1 : IntKind.i64.wrap ((j : Int) + 1) = ((j + 1 : Nat) : Int) := by rw [w64 (by omega) (by omega)]; omega
      obtain ⟨j1, hj1'⟩ : ∃ j1, j1 = j + 1 := ⟨_, rfl⟩
      have htkj : (u.bx.take j1).flatMap (fun y => rowB (encX y.2)) = (u.bx.take j).flatMap (fun y => rowB (encX y.2)) ++ rowB (encX u.bx[j].2) := by rw [hj1', List.take_succ_eq_append_getElem hltB, List.flatMap_append]; simp
      rw [← hj1'] at hj1
      have n8 : Nw w w8 := n7.at_ k8 fun k hk => by
        rcases hk with hk | hk
        · omega
        · rcases nF6 k hk with e | e | e
          · omega
          · omega
          · have := nF1 k e; omega
      have hrZ8 : Rd w8 Z ((keysA u.bx).map fun s => str s) := hrZ.kp k8 fun a ha _ hk => by
        have := hZl a ha
        rcases hk with hk | hk
        · omega
        · have := hW6.lt_ _ hk; omega
      obtain ⟨gZ, oZ, rfl, cZ⟩ := hrZ8 j (str u.bx[j].1) (by simp [keysA, hltB])
      have hlkb := look_at hUO.2.srt hltB
      have hBO := hUO.2.bx _ _ hlkb
      have htlj := encU_len hUO.2 j
      generalize (u.bx.take j).flatMap (fun y => rowB (encX y.2)) = curj at *
      generalize u.bx[j] = Y at *
      obtain ⟨bn, b⟩ := Y
      simp only at cZ hlkb hBO htkj
      have hM8 := hM.nw n8
      obtain ⟨hU8, _⟩ := hM8.us _ _ hlk
      have p18 := hU8.blk.cell 1
      have hlzb := lookup_mp KL hmb zeroBox hU8.mp bn false
      rw [show Mb (vb nm) u.bx bn = some (vb nm bn) by simp [Mb, hlkb]] at hlzb
      have hlzb : (Instr.lookup 118 (.map (some (rb nm))) (str bn) false).run Tryz.prog w8 = .ok (vb nm bn) w8 := hlzb
      have hRB := hU8.bx _ _ hlkb
      have hex := encX_len2 hBO.2
      have hI := IsB.of hBO.2
      have hbs : b.name.size ≤ 9223372036854775807 := by
        have := isB_name hBO.2
        unfold nameOk at this
        simp only [Bool.and_eq_true, decide_eq_true_eq] at this
        have := this.2; omega
      simp -dsimp [go_sem, f60, hltj, cZ, p18, hlzb]
      refine call (bencode_spec (vb nm bn) b w8 hRB.any hbs (by have := hI.len; omega)) ?_
      rintro v w9 ⟨hE, k9⟩
      rcases hE with ⟨_, e, rfl, hB9⟩ | ⟨hno, _⟩
      · obtain ⟨X, xc, rfl, hoX, hX⟩ := id hB9
        obtain ⟨ex, hex'⟩ : ∃ ex, ex = encX b := ⟨_, rfl⟩
        rw [← hex'] at hoX htkj hex ⊢
        simp -dsimp [go_sem]
        have kh : Nw w9 (w9.alloc (.cells #[.slice X ex.length xc] 23)) := (Kp.refl _ _).alloc _
        have hF8l := hW8.lt_
        have s89 := k9.size
        refine call (wBytes_spec g _ [ex] F8 (some ⟨w9.heap.size, 0, none⟩) 1 _ (hW8.kp_ (k9.nw kh) fun _ _ h => h) (brs_one (Blk.new w9 _ _) (fun e => by have := hF8l _ e; omega) (hoX.rd.nw kh) (fun a ha _ hf => by have := hX a ha; have := hF8l _ hf; omega) hoX.2.1) (by rw [List.length_append]; simp [load]; omega)) ?_
        rintro v w10 ⟨rfl, F10, hW10, hG10, hK10⟩
        have s78 := k8.size
        have kF10 : Kp (fun k => k = g ∨ F6 k) w7 w10 := ((k8.nw k9).nw kh).trans hK10 fun k hk hf => by
          rcases nF8 k hf with e | e | e
          · exact .inl e
          · omega
          · exact .inr e
        have he : pr2 ++ curj ++ rowsB [ex] = pr2 ++ (u.bx.take j1).flatMap fun y => rowB (encX y.2) := by
          rw [htkj, List.append_assoc]
          simp [rowsB]
        rw [he] at hW10
        simp -dsimp [go_sem, f60, hj1]
        exact ⟨⟨j1, F10, rfl, by omega, hW10, fun k hk => (hG10 k hk).elim (nF8 k) fun e => by have := kh.size; exact .inr (.inl (by omega)), kF10⟩, by simp [intOf]; omega⟩
      · rw [hBO.2] at hno; cases hno
    · obtain rfl : j = M := by omega
      rw [hM', List.take_length] at hW8
      have he : pr2 ++ u.bx.flatMap (fun y => rowB (encX y.2)) = pre ++ (T.us.take i1).flatMap imgU := by
        rw [htk, hpr2]
        unfold imgU
        simp only [List.append_assoc]
      rw [he] at hW8
      have kF8 : Kp (fun k => k = g ∨ F1 k) w2 w8 := kF7.trans k8 fun k hk hf => by
        rcases hf with e | e
        · exact .inl e
        · rcases nF6 k e with e | e | e
          · exact .inl e
          · omega
          · exact .inr e
      have n8 : Nw w w8 := n2.at_ kF8 fun k hk => by
        rcases hk with hk | hk
        · omega
        · have := nF1 k hk; omega
      have s27 := kF7.size
      simp -dsimp [go_sem, f60, hltj, f28, hi1]
      exact ⟨⟨i1, F8, rfl, by omega, hW8, fun k hk => by
        rcases nF8 k hk with e | e | e
        · exact .inl e
        · exact .inr (.inl (by omega))
        · exact nF6 k e, n8, kF8⟩, by simp [intOf]; omega⟩
  · obtain rfl : i = N := by omega
    rw [hN, List.take_length] at hW3
    have he : pre ++ T.us.flatMap imgU = imgS T := by
      rw [hpre, List.nil_append]; rfl
    rw [he] at hW3
    have hil := imgS_len ok
    simp -dsimp [go_sem, f28, hlt]
    refine call (wOut_spec g (imgS T) F3 w3 hW3 (by omega)) ?_
    rintro v w4 ⟨hB4, k4⟩
    simp -dsimp [go_sem]
    exact ⟨hB4.mono (by have := n3.size; omega), n3.nw k4⟩
end Go.Proofs.YtipdndmfngpbfaaGreatDoor

