/-
  lock: Due, and LockDue walked. By the session itself; on the kit's contract on slices.Sort.
-/
import Derived.Test.YtfdbnlgokaapnaaLkC
import Derived.Test.YtfdbnlgokaapnaaLay
namespace Go.Proofs.Ytfdbnlgokaapnaa
set_option linter.unusedSimpArgs false
set_option linter.unusedVariables false
set_option maxRecDepth 100000
set_option maxHeartbeats 1000000
open Go.Vc Go.RowKit Go.Sort

abbrev srtI (zs : List Int) : List Int := zs.mergeSort fun x y => decide (x ≤ y)
theorem isort_spec (zs : List Int) (n : Nat) (hn : n = zs.length) (hl : zs.length < 4611686018427387904) (A : Option Addr) (c : Nat) (w : World) (ho : Ow w 3 1 A n c (zs.map i64)) :
    Cal Try.prog 41 #[.slice A n c] w fun v w' => v = .tuple #[] ∧ Rd w' A ((srtI zs).map i64) ∧ Kp (blk A) w w' := by
  subst hn
  have hrd := ho.rd
  obtain ⟨h1, h2, h3, ⟨rfl, rfl⟩ | ⟨g, cur, rfl, hb, h5, h6⟩⟩ := id ho
  · have hz : zs = [] := List.eq_nil_of_length_eq_zero (by omega)
    subst hz
    refine (AnyM.slices_Sort_int_none Try.sort41 none 0 w).mono fun e w' ⟨he, hw⟩ => ⟨_, he, rfl, ?_, ?_⟩
    · rw [hw, show srtI [] = [] by simp [srtI]]; exact Rd.nil _ _
    · rw [hw]; exact Kp.refl _ _
  · have hlt : g < w.heap.size := lt_of_heap hb
    have hH : Sort.Holds (Value.int .i64) w g 0 zs.toArray := fun j hj => by
      have hj' : j < zs.length := by simpa using hj
      obtain ⟨b, o, e, hc⟩ := hrd j (i64 zs[j]) (by simp [hj'])
      cases e
      refine ⟨?_, hb.frozen _⟩
      rw [hc]
      simp [getElem!_pos, hj']
    refine (AnyM.slices_Sort_int Try.sort41 g 0 c zs w hH hlt hl).mono fun e w' ⟨he, n, os, hw⟩ => ⟨_, he, rfl, ?_, ?_⟩
    · intro j u hj
      have hlen : (srtI zs).length = zs.length := by simp [srtI]
      have hjl : j < (srtI zs).length := by
        have := (List.getElem?_eq_some_iff.1 hj).1
        simpa using this
      refine ⟨g, 0, rfl, ?_⟩
      have hu : u = i64 (srtI zs)[j] := by
        rw [List.getElem?_map, List.getElem?_eq_getElem hjl] at hj
        simpa using hj.symm
      rw [hw, Sort.cell?_grow _ _ _ (by simpa using hlt), Sort.cell?_putRow _ (Sort.ahead w n) g 0 zs.toArray _ hH (by simp) j (by simpa using hjl), hu]
      simp [getElem!_pos, hjl]
      show ((srtI zs)[j]?).getD 0 = _
      rw [List.getElem?_eq_getElem hjl]
      rfl
    · rw [hw]
      refine ⟨rfl, rfl, rfl, by simp, fun i hi hn => ?_⟩
      rw [Sort.heap_grow_old _ _ (by simpa using hi)]
      show ((Sort.ahead w n).heap.modify g _)[i]? = _
      rw [Array.getElem?_modify, if_neg (fun e => hn e.symm)]
      rfl

def DueR (w : World) (d : Int → Option Int) (n : Int) (v : Value) (w' : World) : Prop := Nw w w' ∧ ∃ (ks : List Int) (A : Option Addr) (c : Nat), ks.Nodup ∧ (∀ x, x ∈ ks ↔ ∃ a, d x = some a ∧ a ≤ n) ∧ v = .slice A ks.length c ∧ Rd w' A ((srtI ks).map i64) ∧ ∀ a, A = some a → w.heap.size ≤ a.block
theorem due_spec (g : Nat) (f : ByteArray → Option Int) (d : Int → Option Int) (F : Nat → Prop) (n : Int) (w : World) (h : Lk w g f d F) (hfin : ∀ ks : List Int, ks.Nodup → (∀ c ∈ ks, (d c).isSome = true) → ks.length ≤ 1000) :
    Cal Try.prog 9 #[.pointer (some ⟨g, 0, none⟩), i64 n] w fun v w' => DueR w d n v w' := by
  obtain ⟨r1, r2, hb, hm1, hm2, hne, hF, hFl⟩ := id h
  have h1 := hb.cell 1
  have K : KeyS Try.prog 3 kInt := keyInt (by kernel_rfl)
  have hmt : Try.prog.underlying 58 = some (.map 3 3) := by kernel_rfl
  refine enter Try.mixed Try.func9 rfl (by kernel_rfl) ?_
  obtain ⟨w1, hrun, hR, hk1⟩ := range_mp hmt hm2
  have hr2 := hFl r2 (hF _ (.inr (.inr rfl)))
  simp -dsimp [go_sem, h1, hrun]
  obtain ⟨it, hit⟩ : ∃ it, it = w.heap.size := ⟨_, rfl⟩
  rw [← hit] at hR ⊢
  refine loop [5, 6, 7, 15, 16, 17, 18, 19, 20, 21, 22, 23, 24, 25, 26] (by kernel_rfl)
    (fun s w' => Box1 (fun a w' => ∃ (ks : List Int) (left : Int → Prop) (m : Nat), m = ks.length ∧ Rg w' it r2 kInt (Mi d) left ∧ Gs w' 3 1 a m (ks.map i64) (it + 1) ∧ ks.Nodup ∧ (∀ c ∈ ks, ¬ left c ∧ ∃ x, d c = some x ∧ x ≤ n) ∧ (∀ c x, d c = some x → x ≤ n → ¬ left c → c ∈ ks) ∧ Nw w w') (s 5) w') (fun _ w' => rgN w' it r2)
    ⟨[], fun _ => True, 0, rfl, hR, Gs.nil _ _ _ _, by simp, by simp, fun _ _ _ _ h => absurd trivial h, hk1⟩ ?_
  rintro s w' ⟨ks, left, m, hm, hR, hG, hnd, h2, h3, hK⟩
  have hks := hfin ks hnd fun c hc => by
    obtain ⟨_, x, hx, _⟩ := h2 c hc
    rw [hx]; rfl
  obtain ⟨A, c, f5, ho, hA⟩ := id hG
  rw [f5] at hG
  have hitl := hR.lt
  rcases next_rg (P := Try.prog) K.inj hR 0 with ⟨hend, hnext⟩ | ⟨a, v, w2, ha, hla, hnext, hR2, hK2, hN2, hentry⟩
  · simp -dsimp [go_sem, hnext, f5]
    refine call (isort_spec ks m hm (by omega) A c w' ho) ?_
    rintro v w3 ⟨rfl, hr3, hk3⟩
    simp -dsimp [go_sem, f5]
    refine ⟨hK.at_ hk3 fun i hi => ?_, ks, A, c, hnd, fun x => ⟨fun hx => (h2 x hx).2, fun ⟨z, hz, hzn⟩ => h3 x z hz hzn fun hl => hend x (i64 z) (by simp [Mi, hz]) hl⟩, by rw [hm], hr3, fun a ha => by have := hA a ha; omega⟩
    cases A with
    | none => exact hi.elim
    | some b =>
      have h1 := hA b rfl
      have hi : i = b.block := hi
      omega
  · obtain ⟨x, hx⟩ : ∃ x, d a = some x := by
      cases hfx : d a with
      | none => simp [Mi, hfx] at ha
      | some c => exact ⟨c, rfl⟩
    have hv : v = i64 x := by
      simp [Mi, hx] at ha
      exact ha.symm
    subst hv
    have hK2' : Nw w w2 := hK.at_ hK2 (Nf.at_ (by omega))
    have hsz : it + 1 ≤ w2.heap.size := by have := hK2.size; omega
    have hG2 := hG.kp hK2 fun i hi _ (e : i = it) => by omega
    by_cases hxn : x ≤ n
    · simp -dsimp [go_sem, hnext, hentry, hxn, f5]
      have ka : Nw w2 (w2.alloc (.cells #[i64 a] 3)) := (Kp.refl _ _).alloc _
      have hRa := hR2.kp ka (fun h => h) (fun h => h)
      refine gs_app Try.Sint (hG2.nw ka) (Rd.fresh (xs := [i64 a]) rfl rfl) (m := 1) (by simp) (by simp [Value.oneCell']) (by omega) (by omega) (Nat.le_trans hsz ka.size) ?_
      intro v3 w3 hG3 hK3
      have hRb := hRa.1.kp hK3 (fun (e : it + 1 ≤ it) => by omega) (fun (e : it + 1 ≤ r2) => by omega)
      obtain ⟨m1, hm1'⟩ : ∃ m1, m1 = m + 1 := ⟨_, rfl⟩
      rw [← hm1', show ks.map i64 ++ [i64 a] = (ks ++ [a]).map i64 by simp] at hG3
      simp -dsimp [go_sem]
      refine ⟨⟨ks ++ [a], _, m1, by simp; omega, hRb.1, hG3, ?_, ?_, ?_, Nw.fr (hK2'.nw ka) hK3 (by omega)⟩, by rw [hRb.2, hRa.2]; exact hN2⟩
      · refine List.nodup_append.2 ⟨hnd, by simp, fun y hy z hz e => ?_⟩
        obtain rfl : z = a := by simpa using hz
        subst e
        exact (h2 y hy).1 hla
      · intro y hy
        rcases List.mem_append.1 hy with hy | hy
        · exact ⟨fun h => (h2 y hy).1 h.1, (h2 y hy).2⟩
        · obtain rfl : y = a := by simpa using hy
          exact ⟨fun h => h.2 rfl, x, hx, hxn⟩
      · intro y z hz hzn hnl
        by_cases hya : y = a
        · simp [hya]
        · exact List.mem_append_left _ (h3 y z hz hzn fun hl => hnl ⟨hl, hya⟩)
    · simp -dsimp [go_sem, hnext, hentry, hxn, f5]
      refine ⟨⟨ks, _, m, hm, hR2, hG2, hnd, fun y hy => ⟨fun h => (h2 y hy).1 h.1, (h2 y hy).2⟩, fun y z hz hzn hnl => ?_, hK2'⟩, hN2⟩
      by_cases hya : y = a
      · subst hya
        rw [hx] at hz
        injection hz with hz
        exact absurd hzn (by omega)
      · exact h3 y z hz hzn fun hl => hnl ⟨hl, hya⟩

theorem one_is {ks : List Int} {c : Int} {p : Prop} [Decidable p] (hnd : ks.Nodup) (h : ∀ x, x ∈ ks ↔ x = c ∧ p) : ks = if p then [c] else [] := by
  split
  · rename_i hp
    match ks, hnd, h with
    | [], _, h => exact absurd ((h c).2 ⟨rfl, hp⟩) (by simp)
    | [a], _, h => rw [((h a).1 (by simp)).1]
    | a :: b :: r, hnd, h =>
      have e1 := ((h a).1 (by simp)).1
      have e2 := ((h b).1 (by simp)).1
      rw [e1, e2] at hnd
      simp at hnd
  · rename_i hp
    exact List.eq_nil_iff_forall_not_mem.2 fun x hx => hp ((h x).1 hx).2
theorem fin_one {ks : List Int} {d : Int → Option Int} {c : Int} (hd : ∀ x, (d x).isSome = true → x = c) (hnd : ks.Nodup) (h : ∀ x ∈ ks, (d x).isSome = true) : ks.length ≤ 1000 := by
  match ks, hnd, h with
  | [], _, _ => simp
  | [a], _, _ => simp
  | a :: b :: r, hnd, h =>
    have e1 := hd a (h a (by simp))
    have e2 := hd b (h b (by simp))
    rw [e1, e2] at hnd
    simp at hnd
theorem ldue_law (c a b l n : Int) (w : World) :
    Cal Try.prog 3 #[i64 c, i64 a, i64 b, i64 l, i64 n] w fun v w' => v = .bool true ∧ Nw w w' := by
  refine enter Try.mixed Try.func3 rfl (by kernel_rfl) ?_
  by_cases c1 : a < 0
  · simp -dsimp [go_sem, c1]
    exact Kp.refl _ _
  by_cases c2 : 1073741824 < a
  · simp -dsimp [go_sem, c1, c2]
    exact Kp.refl _ _
  by_cases c3 : b < 0
  · simp -dsimp [go_sem, c1, c2, c3]
    exact Kp.refl _ _
  by_cases c4 : 1073741824 < b
  · simp -dsimp [go_sem, c1, c2, c3, c4]
    exact Kp.refl _ _
  by_cases c5 : l < 0
  · simp -dsimp [go_sem, c1, c2, c3, c4, c5]
    exact Kp.refl _ _
  by_cases c6 : 1073741824 < l
  · simp -dsimp [go_sem, c1, c2, c3, c4, c5, c6]
    exact Kp.refl _ _
  by_cases c7 : n < 0
  · simp -dsimp [go_sem, c1, c2, c3, c4, c5, c6, c7]
    exact Kp.refl _ _
  by_cases c8 : 4294967296 < n
  · simp -dsimp [go_sem, c1, c2, c3, c4, c5, c6, c7, c8]
    exact Kp.refl _ _
  simp -dsimp [go_sem, c1, c2, c3, c4, c5, c6, c7, c8]
  refine call (new_spec w) ?_
  rintro v w1 ⟨g, F, rfl, hL1, nF, nw1⟩
  simp -dsimp [go_sem]
  refine call (touch_spec g _ _ F c a l w1 hL1) ?_
  rintro v w2 ⟨rfl, hL2, hk2⟩
  have nw2 := nw1.at_ hk2 nF
  simp -dsimp [go_sem]
  refine call (touch_spec g _ _ F c b l w2 hL2) ?_
  rintro v w3 ⟨rfl, hL3, hk3⟩
  have nw3 := nw2.at_ hk3 nF
  have hbl : IntKind.i64.wrap (b + l) = b + l := w64 (by omega) (by omega)
  have hd3 : touchD (touchD (fun _ => none) c (IntKind.i64.wrap (a + l))) c (IntKind.i64.wrap (b + l)) = fun x => if x = c then some (b + l) else none := by
    funext x
    unfold touchD
    rw [hbl]
    split <;> simp_all
  rw [hd3] at hL3
  simp -dsimp [go_sem]
  refine call (due_spec g _ _ F n w3 hL3 fun ks hnd h => fin_one (c := c) (fun x hx => by
    by_cases hxc : x = c
    · exact hxc
    · rw [if_neg hxc] at hx; cases hx) hnd h) ?_
  rintro v w4 ⟨hk4, ks, A4, c4', hnd, hks, rfl, hr4, hA4⟩
  have hks1 : ks = if b + l ≤ n then [c] else [] := one_is hnd fun x => by
    rw [hks x]
    by_cases hxc : x = c
    · simp [hxc]
    · simp [hxc]
  have nw4 := nw3.nw hk4
  have hL4 := hL3.kp hk4 fun _ _ h => h
  have hf5 : forgetD (fun x => if x = c then some (b + l) else none) c = fun _ => none := by
    funext x
    unfold forgetD
    split
    · rfl
    · rename_i hx
      show (if x = c then some (b + l) else none) = none
      rw [if_neg hx]
  have out : ∀ w5 : World, Lk w5 g (fun _ => none) (fun _ => none) F → Cal Try.prog 9 #[.pointer (some ⟨g, 0, none⟩), i64 1099511627776] w5 fun v w' => Nw w5 w' ∧ ∃ A c, v = .slice A 0 c := fun w5 h5 => by
    refine (due_spec g _ _ F _ w5 h5 fun ks _ h => by
      match ks, h with
      | [], _ => simp
      | x :: r, h => exact absurd (h x (by simp)) (by simp)).mono ?_
    rintro v w' ⟨hk, ks, A, c, _, hks, rfl, _, _⟩
    have : ks = [] := List.eq_nil_iff_forall_not_mem.2 fun x hx => by
      obtain ⟨_, h, _⟩ := (hks x).1 hx
      cases h
    subst this
    exact ⟨hk, A, c, rfl⟩
  by_cases hp : b + l ≤ n
  · rw [if_pos hp] at hks1
    subst hks1
    have hs1 : srtI [c] = [c] := by simp [srtI]
    rw [hs1] at hr4
    obtain ⟨bb, oo, rfl, hc4⟩ := hr4 0 (i64 c) rfl
    rw [Nat.add_zero] at hc4
    simp -dsimp [go_sem]
    refine call (forget_spec g _ _ F c w4 hL4) ?_
    rintro v w5 ⟨rfl, hL5, hk5⟩
    rw [hf5] at hL5
    have nw5 := nw4.at_ hk5 nF
    have hc5 : w5.cell? ⟨bb, oo, none⟩ = some (i64 c) := hk5.cell_some hc4 fun hF => by
      obtain ⟨_, _, _, _, _, _, _, hlt⟩ := hL3
      have h1 := hA4 _ rfl
      have h2 := hlt _ hF
      have h1 : w3.heap.size ≤ bb := h1
      have h2 : bb < w3.heap.size := h2
      omega
    simp -dsimp [go_sem, hbl, hp, hc5]
    refine call (out w5 hL5) ?_
    rintro v w6 ⟨hk6, A6, c6', rfl⟩
    simp -dsimp [go_sem]
    refine call (lknown_spec w6) ?_
    rintro v w7 ⟨rfl, hk7⟩
    simp -dsimp [go_sem]
    exact (nw5.nw hk6).nw hk7
  · rw [if_neg hp] at hks1
    subst hks1
    simp -dsimp [go_sem]
    refine call (forget_spec g _ _ F c w4 hL4) ?_
    rintro v w5 ⟨rfl, hL5, hk5⟩
    rw [hf5] at hL5
    have nw5 := nw4.at_ hk5 nF
    simp -dsimp [go_sem, hbl, hp]
    refine call (out w5 hL5) ?_
    rintro v w6 ⟨hk6, A6, c6', rfl⟩
    simp -dsimp [go_sem]
    refine call (lknown_spec w6) ?_
    rintro v w7 ⟨rfl, hk7⟩
    simp -dsimp [go_sem]
    exact (nw5.nw hk6).nw hk7
end Go.Proofs.Ytfdbnlgokaapnaa
