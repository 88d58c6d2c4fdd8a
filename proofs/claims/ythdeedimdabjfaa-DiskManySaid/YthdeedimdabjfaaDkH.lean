/-
  DiskRoom walked: there are never more bytes than the room, and what has none changes nothing. By the session itself.
-/
import Derived.Test.YthdeedimdabjfaaDkG
namespace Go.Proofs.Ythdeedimdabjfaa
set_option linter.unusedSimpArgs false
set_option linter.unusedVariables false
set_option maxRecDepth 100000
set_option maxHeartbeats 1000000
open Go.Vc Go.RowKit

theorem dApp_not {D : Dsk} {s : Nm} {b : List UInt8} (hl : D.left = none) (hs : badN s = false) (h : D.room < D.used + b.length) : dAppend D s b = (D, 6) := by
  unfold dAppend
  have : mayL D [s] = 0 := by simp [mayL, hl, hs]
  rw [this, if_neg (fun h => h rfl), if_pos (.inl h)]
theorem dApp_is {D : Dsk} {s : Nm} {b : List UInt8} (hl : D.left = none) (hs : badN s = false) (h : D.used + b.length ≤ D.room) (hm : D.fs.length < 4096) : dAppend D s b = (⟨D.room, tLay D.fs s ⟨(dRead D s).1 ++ b, ((tLook D.fs s).getD .none).l⟩, none⟩, 0) := by
  unfold dAppend
  have : mayL D [s] = 0 := by simp [mayL, hl, hs]
  have e : ((tLook D.fs s).getD .none).b = (dRead D s).1 := by
    unfold dRead
    cases tLook D.fs s <;> rfl
  rw [this, if_neg (fun h => h rfl), if_neg (by omega), e]
  simp [Dsk.done, hl]

theorem droom_law (r0 : Int) (ps : List (List UInt8)) (A : Option Addr) (c : Nat) (w : World) (hr : Brs w A ps fun _ => False) (hc : ps.length ≤ c) (hm : ∀ p ∈ ps, p.length ≤ 140737488355328) :
    Cal Try.prog 4 #[i64 r0, .slice A ps.length c] w fun v w' => v = .bool true ∧ Nw w w' := by
  refine enter Try.mixed Try.func4 rfl (by kernel_rfl) ?_
  simp -dsimp [go_sem]
  refine loopx 0 [5, 6, 18, 19, 20, 21, 22, 23, 24, 25, 26, 27, 28, 29, 30, 31, 32, 33, 34, 35] (by kernel_rfl)
    (fun f w' => Box2 (fun a b w' => ∃ (i n : Nat), i ≤ ps.length ∧ b = i64 i ∧ a = i64 n ∧ n = wei1 (ps.take i) ∧ (i ≠ 0 → wei1 (ps.take (i - 1)) ≤ 8000) ∧ w' = w) (f 5) (f 6) w') (fun f _ => ps.length - (intOf (f 6)).toNat)
    (fun f w' => Box1 (fun a w' => ∃ n : Nat, a = i64 n ∧ (n ≤ 8000 → n = wei1 ps) ∧ w' = w) (f 5) w') ⟨0, 0, Nat.zero_le _, rfl, rfl, rfl, by simp, rfl⟩ ?_ ?_
  · rintro f w' ⟨i, n, hi, fi, fn, hn, h8, rfl⟩
    by_cases hlt : i < ps.length
    · by_cases hn8 : n ≤ 8000
      · have hn8' : (n : Int) ≤ 8000 := by omega
        obtain ⟨vs, hvl, hrd, hoA, hi'⟩ := id hr
        obtain ⟨X, x, hv, hrX, hoX, hx⟩ := hi' i hlt
        obtain ⟨b, o, rfl, hcell⟩ := hrd i _ hv
        have hlen := hm ps[i] (List.getElem_mem hlt)
        have hat := wei1_at ps i hlt
        have h1 : IntKind.i64.wrap ((n : Int) + 1) = ((n + 1 : Nat) : Int) := w64 (by omega) (by omega)
        obtain ⟨n1, hn1⟩ : ∃ n1, n1 = n + 1 := ⟨_, rfl⟩
        have h2 : IntKind.i64.wrap ((n1 : Int) + (ps[i].length : Int)) = ((n1 + ps[i].length : Nat) : Int) := w64 (by omega) (by omega)
        obtain ⟨n2, hn2⟩ : ∃ n2, n2 = n1 + ps[i].length := ⟨_, rfl⟩
        have hge := wei1_ge (ps.take i)
        rw [List.length_take, Nat.min_eq_left (by omega)] at hge
        have hk1 : IntKind.i64.wrap ((i : Int) + 1) = ((i + 1 : Nat) : Int) := w64 (by omega) (by omega)
        obtain ⟨k1, hk1'⟩ : ∃ k1, k1 = i + 1 := ⟨_, rfl⟩
        rw [← hn1] at h1
        rw [← hn2] at h2
        rw [← hk1'] at hk1 hat
        simp -dsimp [go_sem, fn, fi, hlt, hn8, hn8', hcell, h1, h2, hk1]
        refine ⟨⟨k1, n2, by omega, rfl, rfl, by omega, fun _ => by rw [show k1 - 1 = i by omega]; omega, rfl⟩, by simp [intOf]; omega⟩
      · have hn8' : ¬ (n : Int) ≤ 8000 := by omega
        simp -dsimp [go_sem, fn, fi, hlt, hn8, hn8']
        exact ⟨n, rfl, fun h => absurd h hn8, rfl⟩
    · obtain rfl : i = ps.length := by omega
      rw [List.take_length] at hn
      simp -dsimp [go_sem, fn, fi, hlt]
      exact ⟨n, rfl, fun _ => hn, rfl⟩
  rintro f w' ⟨n, f5, hnw, rfl⟩
  have out : ∀ w', Cal Try.prog 14 #[] w' fun v w'' => v = .bool true ∧ Nw w' w'' := dknown_spec
  by_cases h8 : 8000 < n
  · have h8' : (8000 : Int) < (n : Int) := by omega
    simp -dsimp [go_sem, f5, h8, h8']
    refine call (out w') ?_
    rintro v w1 ⟨rfl, hk1⟩
    simp -dsimp [go_sem]
    exact hk1
  have h8' : ¬ (8000 : Int) < (n : Int) := by omega
  have hw8 : wei1 ps ≤ 8000 := by have := hnw (by omega); omega
  have hge := wei1_ge ps
  by_cases hn1 : r0 < 0
  · simp -dsimp [go_sem, f5, h8, h8', hn1]
    refine call (out w') ?_
    rintro v w1 ⟨rfl, hk1⟩
    simp -dsimp [go_sem]
    exact hk1
  by_cases hn2 : 5000 < r0
  · simp -dsimp [go_sem, f5, h8, h8', hn1, hn2]
    refine call (out w') ?_
    rintro v w1 ⟨rfl, hk1⟩
    simp -dsimp [go_sem]
    exact hk1
  obtain ⟨R, rfl⟩ : ∃ N : Nat, r0 = N := ⟨r0.toNat, by omega⟩
  by_cases hp60 : 60 < ps.length
  · have hp60' : (60 : Int) < (ps.length : Int) := by omega
    simp -dsimp [go_sem, f5, h8, h8', hn1, hn2, hp60, hp60']
    refine call (out w') ?_
    rintro v w1 ⟨rfl, hk1⟩
    simp -dsimp [go_sem]
    exact hk1
  have hp60' : ¬ (60 : Int) < (ps.length : Int) := by omega
  simp -dsimp [go_sem, f5, h8, h8', hn1, hn2, hp60, hp60']
  refine call (new_spec R w') ?_
  rintro v w1 (⟨h, _⟩ | ⟨_, _, g, F, rfl, hD, nF, hk1⟩)
  · omega
  rw [Int.toNat_natCast] at hD
  simp -dsimp [go_sem]
  refine loop [4, 9, 10, 11, 12, 13, 14, 15, 16, 17, 63, 64, 65, 66, 67, 68, 69, 70, 71, 72, 73, 74, 75, 76, 77, 78, 79, 80, 81, 82, 83, 84, 85, 86, 87, 88, 89, 90, 91, 92, 93, 94, 95, 96, 97, 98, 99, 100, 101, 102, 103, 104, 105, 106, 107, 108, 109, 110, 111, 112, 113, 114, 115, 116, 117, 118, 119, 120, 121, 122, 123, 124, 125, 126, 127, 128, 129, 130, 131, 132, 133, 134, 135, 136, 137, 138, 139, 140, 141, 142, 143, 144, 145, 146] (by kernel_rfl)
    (fun f w3 => Box1 (fun a w3 => ∃ (i : Nat) (D : Dsk) (F : Nat → Prop), i ≤ ps.length ∧ a = i64 i ∧ Dk w3 g D F ∧ D.left = none ∧ D.room = R ∧ D.fs.length ≤ i ∧ Nf w' F ∧ Nw w' w3) (f 9) w3)
    (fun f _ => ps.length - (intOf (f 9)).toNat) ⟨0, _, F, Nat.zero_le _, rfl, hD, rfl, rfl, Nat.le_refl _, nF, hk1⟩ ?_
  rintro f w3 ⟨i, D, F, hi, f9, hD, hleft, hroom, hfl, nF, hK⟩
  simp -dsimp [go_sem, f9]
  refine cond_d (fun hlt => ?_) (fun hlt => ?_)
  · have hlt : i < ps.length := by omega
    obtain ⟨vs, hvl, hrd, hoA, hi'⟩ := id hr
    obtain ⟨X, x, hv, hrX, hoX, hx⟩ := hi' i hlt
    obtain ⟨b, o, rfl, hcell0⟩ := hrd i _ hv
    have hat := flat_at ps i hlt
    have hft1 := flat_take ps (i + 1)
    have hft2 := congrArg List.length hat
    rw [List.length_append] at hft2
    obtain ⟨p, hp⟩ : ∃ p, p = ps[i] := ⟨_, rfl⟩
    rw [← hp] at hcell0 hrX hx hat hft2
    have hok := hD.ok
    have hused := hok.used
    obtain ⟨q, hq⟩ : ∃ q, q = i % 3 := ⟨_, rfl⟩
    have hrem : (i : Int).tmod 3 = (q : Int) := by
      rw [Int.tmod_eq_emod_of_nonneg (by omega), hq]
      rfl
    have hwr : IntKind.u8.wrap (q : Int) = (q : Int) := by rw [IntKind.wrap_u8']; omega
    simp -dsimp [go_sem, f9, hrem, hwr]
    have ka : Nw w3 (w3.alloc (.cells #[.int .u8 102, .int .u8 (q : Int)] 5)) := (Kp.refl _ _).alloc _
    have hcv : convR Try.prog 23 9 (.slice (some ⟨w3.heap.size, 0, none⟩) 2 2) (w3.alloc (.cells #[.int .u8 102, .int .u8 (q : Int)] 5)) = .ok (str [102, UInt8.ofNat q]) (w3.alloc (.cells #[.int .u8 102, .int .u8 (q : Int)] 5)) :=
      conv_str (P := Try.prog) (e := 5) (l := [102, UInt8.ofNat q]) (by kernel_rfl) (by kernel_rfl) (by kernel_rfl) (Rd.fresh rfl (by rw [List.map_cons, List.map_cons, List.map_nil, byteOf q (by omega)]; rfl))
    have hbad : badN [102, UInt8.ofNat q] = false := rfl
    obtain ⟨s, hs⟩ : ∃ s, s = [102, UInt8.ofNat q] := ⟨_, rfl⟩
    rw [← hs] at hcv hbad
    have hsl : s.length = 2 := by rw [hs]; rfl
    simp -dsimp [go_sem, hcv]
    have hDa := hD.nw ka
    have nwa := hK.nw ka
    generalize w3.alloc (.cells #[.int .u8 102, .int .u8 (q : Int)] 5) = wa at *
    refine call (dread_spec s g D F wa hDa) ?_
    rintro v w4 ⟨hk4, u4, rfl, hB4⟩
    have nw4 := nwa.nw hk4
    have hD4 := hDa.nw hk4
    simp -dsimp [go_sem]
    refine call (used_spec g D F w4 hD4) ?_
    rintro v w5 ⟨rfl, hk5⟩
    have nw5 := nw4.nw hk5
    have hD5 := hD4.nw hk5
    have hcell5 := nw5.cell_some hcell0 fun h => h
    simp -dsimp [go_sem, f9, hlt, hcell5]
    have kb : Nw w5 (w5.alloc (.cells #[.slice X p.length x] 23)) := (Kp.refl _ _).alloc _
    refine call (dappend_spec s [p] _ 1 g D F (fun _ => False) _ (hD5.nw kb) (Brs.one (p := p) (d := x) (Blk.fresh rfl) (fun h => h) (hrX.nw (nw5.nw kb)) (fun _ _ h => h) hx) (by simp) (by simp) (by simp; omega) (by omega)) ?_
    have hflp : ([p] : List (List UInt8)).flatten = p := by simp
    rw [hflp]
    have hread : (dRead D s).1.length ≤ D.used := by
      unfold dRead
      cases hx' : tLook D.fs s with
      | none => simp
      | some x' => exact sumv_ge (fun f : Fil => f.b.length) hx'
    have hk1 : IntKind.i64.wrap ((i : Int) + 1) = ((i + 1 : Nat) : Int) := w64 (by omega) (by omega)
    obtain ⟨k1, hk1'⟩ : ∃ k1, k1 = i + 1 := ⟨_, rfl⟩
    rw [← hk1'] at hk1
    have hadd : IntKind.i64.wrap ((D.used : Int) + (p.length : Int)) = ((D.used + p.length : Nat) : Int) := w64 (by omega) (by omega)
    obtain ⟨t, ht⟩ : ∃ t, t = D.used + p.length := ⟨_, rfl⟩
    rw [← ht] at hadd
    obtain ⟨was, hwas⟩ : ∃ was, was = (dRead D s).1 := ⟨_, rfl⟩
    rw [← hwas] at hB4 hread
    obtain ⟨A4, c4, rfl, ho4, hA4⟩ := hB4
    have hoff4 : Off A4 F := fun a ha hf => by
      have h1 := hA4 a ha
      have h2 := hDa.lt _ hf
      omega
    by_cases hfit : t ≤ R
    · have hfit' : (t : Int) ≤ (R : Int) := by omega
      have happ := dApp_is (b := p) hleft hbad (by omega) (by omega)
      rw [← hwas] at happ
      obtain ⟨D', hD'⟩ : ∃ D', D' = (dAppend D s p).1 := ⟨_, rfl⟩
      have hD'r : (dRead D' s).1 = was ++ p := by
        rw [hD', happ]
        simp [dRead, tLook_lay]
      have hD'l : D'.left = none := by rw [hD', happ]
      have hD'R : D'.room = R := by rw [hD', happ]; exact hroom
      have hD'n : D'.fs.length ≤ k1 := by
        rw [hD', happ]
        simp only [lay_len hok.srt]
        split <;> omega
      have he0 : (dAppend D s p).2 = 0 := by rw [happ]
      rw [← hD', he0]
      rintro v w6 ⟨rfl, F6, hD6, hG6, hK6⟩
      have nw6 : Nw w' w6 := Nw.at_ (nw5.nw kb) hK6 nF
      have nF6 := nF.gr hG6 (nw5.nw kb).size
      simp -dsimp [go_sem]
      refine call (dread_spec s g D' F6 w6 hD6) ?_
      rintro v w7 ⟨hk7, u7, rfl, hB7⟩
      rw [hD'r] at hB7
      have nw7 := nw6.nw hk7
      have hD7 := hD6.nw hk7
      have hcell7 := nw7.cell_some hcell0 fun h => h
      simp -dsimp [go_sem, f9, hlt, hcell7, hadd, hfit, hfit']
      refine draw (.take 0 (.take 1 (.take 2 (.take 3 (.take 4 (.take 5 (.take 7 (.alt 6 (.take 8 (.take 9 (.take 10 (.take 11 (.take 12 (.take 13 (.take 14 (.take 15 (.alt 16 (.take 17 (.take 18 (.take 19 (.take 21 (.alt 20 (.take 22 (.take 23 (.take 24 (.take 25 (.take 26 (.take 27 (.take 28 (.take 29 (.take 31 (.take 33 (.take 34 (.take 35 (.take 36 (.alt 30 (.alt 32 (.alt 37 (.alt 38 (.take 39 (.take 40 (.take 41 .done))) .stop) .stop) .stop) .stop)))))))))))))) .stop))))) .stop))))))))) .stop)))))))) (by kernel_rfl) (fun w1 => Nw w7 w1) ((Kp.refl _ _).drew) ?_
      simp -dsimp [go_sem]
      have kd : Nw w7 w7.drew := (Kp.refl _ _).drew
      refine call (used_spec g D' F6 _ (hD7.nw kd)) ?_
      rintro v w8 ⟨rfl, hk8⟩
      have k78 := kd.nw hk8
      refine ⟨k78, ?_⟩
      have hu' : D'.used ≤ R := by have := hD7.ok.used; omega
      have hu'1 : ¬ (R : Int) < (D'.used : Int) := by omega
      have hu'2 : ¬ R < D'.used := by omega
      have hcell8 := k78.cell_some hcell7 fun h => h
      simp -dsimp [go_sem, hu'1, hu'2, f9, hlt, hcell8]
      have hcr : Rd w8 A4 (was.map u8) := ((((ho4.rd.nw hk5).nw kb).kp hK6 (hoff4.l _)).nw hk7).nw k78
      refine ⟨k78, fun w1 h1 => by simp [h1.cell_some hcell7 fun h => h], k78.alloc _, ?_⟩
      refine bs_fresh (m := was) rfl rfl hcr (by omega) ?_
      intro v9 w9 hB9 hk9
      have k79 := k78.nw hk9
      simp -dsimp [go_sem]
      refine ⟨k79, ?_⟩
      refine bs_app (m := p) (l := was) (B := w8.heap.size) hB9 ((hrX.nw nw7).nw k79) (by omega) hk9.size ?_
      intro v10 w10 hB10 hk10
      have k80 : Nw w8 w10 := Nw.fr hk9 hk10 (Nat.le_refl _)
      have k70 := k78.nw k80
      obtain ⟨A7, c7, rfl, ho7, hA7⟩ := hB7
      obtain ⟨A10, c10, rfl, ho10, hA10⟩ := hB10
      have hyl : (was ++ p).length ≤ 140737488355328 := by rw [List.length_append]; omega
      obtain ⟨y, hy⟩ : ∃ y, y = was ++ p := ⟨_, rfl⟩
      rw [← hy] at ho7 ho10 hyl ⊢
      simp -dsimp [go_sem]
      refine ⟨k70, ?_⟩
      refine call (dsame_spec A7 A10 c7 c10 y y w10 (ho7.nw k70).rd ho10.rd hyl) ?_
      rintro v w11 ⟨rfl, hk11⟩
      refine ⟨k70.nw hk11, ?_⟩
      simp -dsimp [go_sem, f9, hk1]
      exact ⟨⟨k1, D', F6, by omega, rfl, hD7.nw (k70.nw hk11), hD'l, hD'R, hD'n, nF6, nw7.nw (k70.nw hk11)⟩, by simp [intOf]; omega⟩
    · have hfit' : ¬ (t : Int) ≤ (R : Int) := by omega
      have happ := dApp_not (b := p) hleft hbad (by omega)
      rw [happ]
      rintro v w6 ⟨rfl, F6, hD6, hG6, hK6⟩
      have nw6 : Nw w' w6 := Nw.at_ (nw5.nw kb) hK6 nF
      have nF6 := nF.gr hG6 (nw5.nw kb).size
      have hD6 : Dk w6 g D F6 := hD6
      simp -dsimp [go_sem]
      refine call (dread_spec s g D F6 w6 hD6) ?_
      rintro v w7 ⟨hk7, u7, rfl, hB7⟩
      rw [← hwas] at hB7
      have nw7 := nw6.nw hk7
      have hD7 := hD6.nw hk7
      have hcell7 := nw7.cell_some hcell0 fun h => h
      simp -dsimp [go_sem, f9, hlt, hcell7, hadd, hfit, hfit']
      refine draw (.take 0 (.take 1 (.take 2 (.take 3 (.take 4 (.take 5 (.take 7 (.alt 6 (.take 8 (.take 9 (.take 10 (.take 11 (.take 12 (.take 13 (.take 14 (.take 15 (.alt 16 (.take 17 (.take 18 (.take 19 (.take 21 (.alt 20 (.take 22 (.take 23 (.take 24 (.take 25 (.take 26 (.take 27 (.take 28 (.take 29 (.take 31 (.take 33 (.take 34 (.take 35 (.take 36 (.alt 30 (.alt 32 (.alt 37 (.alt 38 (.take 39 (.take 40 (.take 41 .done))) .stop) .stop) .stop) .stop)))))))))))))) .stop))))) .stop))))))))) .stop)))))))) (by kernel_rfl) (fun w1 => Nw w7 w1) ((Kp.refl _ _).drew) ?_
      simp -dsimp [go_sem]
      have kd : Nw w7 w7.drew := (Kp.refl _ _).drew
      refine call (used_spec g D F6 _ (hD7.nw kd)) ?_
      rintro v w8 ⟨rfl, hk8⟩
      have k78 := kd.nw hk8
      refine ⟨k78, ?_⟩
      have hu'1 : ¬ (R : Int) < (D.used : Int) := by omega
      have hu'2 : ¬ R < D.used := by omega
      have hcr : Rd w8 A4 (was.map u8) := ((((ho4.rd.nw hk5).nw kb).kp hK6 (hoff4.l _)).nw hk7).nw k78
      obtain ⟨A7, c7, rfl, ho7, hA7⟩ := hB7
      simp -dsimp [go_sem, hu'1, hu'2]
      refine call (dsame_spec A7 A4 c7 c4 was was w8 (ho7.nw k78).rd hcr (by omega)) ?_
      rintro v w9 ⟨rfl, hk9⟩
      have k79 := k78.nw hk9
      refine ⟨k79, ?_⟩
      simp -dsimp [go_sem]
      refine call (used_spec g D F6 _ (hD7.nw k79)) ?_
      rintro v w10 ⟨rfl, hk10⟩
      have k70 := k79.nw hk10
      refine ⟨k70, ?_⟩
      simp -dsimp [go_sem, f9, hk1]
      exact ⟨k70, ⟨k1, D, F6, by omega, rfl, hD7.nw k70, hleft, hroom, by omega, nF6, nw7.nw k70⟩, by simp [intOf]; omega⟩
  · simp -dsimp [go_sem]
    refine call (out w3) ?_
    rintro v w4 ⟨rfl, hk4⟩
    simp -dsimp [go_sem]
    exact hK.nw hk4
end Go.Proofs.Ythdeedimdabjfaa
