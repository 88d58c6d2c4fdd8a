/-
  lock's reference: Free and Forget walked. By the session itself.
-/
import Derived.Test.YtfdbnlgokaapnaaLkE
namespace Go.Proofs.Ytfdbnlgokaapnaa
set_option linter.unusedSimpArgs false
set_option linter.unusedVariables false
set_option maxRecDepth 100000
set_option maxHeartbeats 1000000
open Go.Vc Go.RowKit

theorem rFree_spec (y : Nat) (hl : List (ByteArray × Int)) (dl : List (Int × Int)) (F : Nat → Prop) (n : Int) (w : World) (h : RefL w y hl dl F) (hll : hl.length ≤ 1000) :
    Cal Try.prog 16 #[.pointer (some ⟨y, 0, none⟩), i64 n] w fun v w' => v = .tuple #[] ∧ ∃ F', RefL w' y (hl.filter fun p => p.2 != n) dl F' ∧ Gr F F' w w' ∧ Kp F w w' := by
  obtain ⟨H, ch, D, cd, hb, ho, hr, hc, hF, h1, h2, h3, hlt⟩ := id h
  have b0 := hb.cell 0
  refine enter Try.mixed Try.func16 rfl (by kernel_rfl) ?_
  simp -dsimp [go_sem]
  refine loop [4, 5, 6, 7, 8, 9, 10, 11, 12, 13, 14, 15, 16, 17, 18, 19, 20, 21, 22, 23, 24, 25, 26, 27, 28, 29, 30, 31, 32, 33, 34] (by kernel_rfl)
    (fun f w' => Box2 (fun a x w' => ∃ (i m : Nat) (ms : List (ByteArray × Int)), i ≤ hl.length ∧ a = i64 i ∧ ms = (hl.take i).filter (fun p => p.2 != n) ∧ m = ms.length ∧ m ≤ i ∧ Gs w' 63 2 x m (cl kStr ms) w.heap.size ∧ Nw w w') (f 5) (f 4) w') (fun f _ => hl.length - (intOf (f 5)).toNat) ⟨0, 0, [], Nat.zero_le _, rfl, rfl, rfl, Nat.le_refl _, Gs.nil _ _ _ _, Kp.refl _ _⟩ ?_
  rintro f w' ⟨i, m, ms, hi, f5, hms, hm, hmi, hG, hK⟩
  have b0' := (hb.kp hK fun h => h).cell 0
  obtain ⟨A, c, f4, hoA, hA⟩ := id hG
  rw [f4] at hG
  by_cases hlt2 : i < hl.length
  · obtain ⟨c0, c1⟩ := cl_at kStr hl i hlt2
    have hr' := ho.rd.nw hK
    obtain ⟨b, o, rfl, hc0⟩ := hr' _ _ c0
    obtain ⟨b', o', e, hc1⟩ := hr' _ _ c1
    cases e
    rw [← Nat.add_assoc] at hc1
    have hki : IntKind.i64.wrap ((i : Int) + 1) = ((i + 1 : Nat) : Int) := w64 (by omega) (by omega)
    have htk : (hl.take (i + 1)).filter (fun p => p.2 != n) = ms ++ [hl[i]].filter (fun p => p.2 != n) := by rw [List.take_succ_eq_append_getElem hlt2, List.filter_append, hms]
    obtain ⟨i1, hi1⟩ : ∃ i1, i1 = i + 1 := ⟨_, rfl⟩
    rw [← hi1] at hki htk
    generalize hl[i] = q at *
    obtain ⟨u1, n1⟩ := q
    simp only at hc0 hc1
    by_cases hn : n1 = n
    · have hn' : (n1 != n) = false := by simpa using hn
      simp -dsimp [go_sem, f5, f4, b0', hlt2, hc0, hc1, hn', hki]
      refine ⟨⟨i1, m, ms, by omega, rfl, ?_, hm, by omega, hG, hK⟩, by simp [intOf]; omega⟩
      rw [htk]; simp [hn]
    · have hn' : (n1 != n) = true := by simpa using hn
      simp -dsimp [go_sem, f5, f4, b0', hlt2, hc0, hc1, hn', hki]
      have ka : Nw w' (w'.alloc (.cells #[.string u1, i64 n1] 63)) := (Kp.refl _ _).alloc _
      refine gs_app Sheld (hG.nw ka) (ys := cl kStr [(u1, n1)]) (Rd.fresh rfl rfl) (m := 1) (by simp [cl_len]) (cl_oneS _) (by omega) (by omega) (Nat.le_trans hK.size ka.size) ?_
      intro v3 w3 hG3 hK3
      rw [← cl_app] at hG3
      obtain ⟨m1, hm1⟩ : ∃ m1, m1 = m + 1 := ⟨_, rfl⟩
      rw [← hm1] at hG3
      simp -dsimp [go_sem, f5, hki]
      refine ⟨⟨i1, m1, ms ++ [(u1, n1)], by omega, rfl, ?_, by simp; omega, by omega, hG3, Nw.fr (hK.nw ka) hK3 (Nat.le_refl _)⟩, by simp [intOf]; omega⟩
      rw [htk]; simp [hn]
  · obtain rfl : i = hl.length := by omega
    rw [List.take_length] at hms
    rw [← hms]
    have b0f := (hb.kp hK fun h => h).frozen 0
    simp -dsimp [go_sem, f5, f4, b0', b0f]
    have hyl := hlt y (hF _ (.inl rfl))
    have hs : Kp (At y) w' (w'.setCell ⟨y, 0, none⟩ (.slice A m c)) := (Kp.refl _ _).setCell_at _ _
    have hAn : ∀ k, blk A k → w.heap.size ≤ k ∧ k < w'.heap.size := fun k hk => by
      obtain ⟨a, ha, rfl⟩ := blk_of hk
      exact ⟨hA a ha, hoA.lt a ha⟩
    have hoff : Off A (At y) := fun a ha e => by
      have := hA a ha
      have e : a.block = y := e
      omega
    rw [hm] at hoA hs ⊢
    refine ⟨fun k => F k ∨ blk A k, ⟨A, c, D, cd, by simpa using (hb.kp hK fun h => h).set 0 _, hoA.kp hs hoff, (hr.nw hK).kp hs (h2.l _), hc, fun k hk => ?_, hoff, h2, fun k hk hd => ?_, fun k hk => Nat.lt_of_lt_of_le ?_ hs.size⟩, fun k hk => ?_, (hK.kp F).trans hs fun k _ e => by rw [show k = y from e]; exact hF _ (.inl rfl)⟩
    · rcases hk with e | e | e
      · exact .inl (hF _ (.inl e))
      · exact .inr e
      · exact .inl (hF _ (.inr (.inr e)))
    · have h4 := hlt k (hF _ (.inr (.inr hd)))
      have := (hAn k hk).1
      omega
    · rcases hk with e | e
      · exact Nat.lt_of_lt_of_le (hlt k e) hK.size
      · exact (hAn k e).2
    · rcases hk with e | e
      · exact .inl e
      · exact .inr ⟨(hAn k e).1, Nat.lt_of_lt_of_le (hAn k e).2 hs.size⟩

theorem rForget_spec (y : Nat) (hl : List (ByteArray × Int)) (dl : List (Int × Int)) (F : Nat → Prop) (n : Int) (w : World) (h : RefL w y hl dl F) (hll : dl.length ≤ 1000) :
    Cal Try.prog 18 #[.pointer (some ⟨y, 0, none⟩), i64 n] w fun v w' => v = .tuple #[] ∧ ∃ F', RefL w' y hl (dl.filter fun p => p.1 != n) F' ∧ Gr F F' w w' ∧ Kp F w w' := by
  obtain ⟨H, ch, D, cd, hb, ho, hr, hc, hF, h1, h2, h3, hlt⟩ := id h
  have b0 := hb.cell 1
  refine enter Try.mixed Try.func18 rfl (by kernel_rfl) ?_
  simp -dsimp [go_sem]
  refine loop [4, 5, 6, 7, 8, 9, 10, 11, 12, 13, 14, 15, 16, 17, 18, 19, 20, 21, 22, 23, 24, 25, 26, 27, 28, 29, 30, 31, 32, 33, 34] (by kernel_rfl)
    (fun f w' => Box2 (fun a x w' => ∃ (i m : Nat) (ms : List (Int × Int)), i ≤ dl.length ∧ a = i64 i ∧ ms = (dl.take i).filter (fun p => p.1 != n) ∧ m = ms.length ∧ m ≤ i ∧ Gs w' 65 2 x m (cl kInt ms) w.heap.size ∧ Nw w w') (f 5) (f 4) w') (fun f _ => dl.length - (intOf (f 5)).toNat) ⟨0, 0, [], Nat.zero_le _, rfl, rfl, rfl, Nat.le_refl _, Gs.nil _ _ _ _, Kp.refl _ _⟩ ?_
  rintro f w' ⟨i, m, ms, hi, f5, hms, hm, hmi, hG, hK⟩
  have b0' := (hb.kp hK fun h => h).cell 1
  obtain ⟨A, c, f4, hoA, hA⟩ := id hG
  rw [f4] at hG
  by_cases hlt2 : i < dl.length
  · obtain ⟨c0, c1⟩ := cl_at kInt dl i hlt2
    have hr' := hr.nw hK
    obtain ⟨b, o, rfl, hc0⟩ := hr' _ _ c0
    obtain ⟨b', o', e, hc1⟩ := hr' _ _ c1
    cases e
    rw [← Nat.add_assoc] at hc1
    have hki : IntKind.i64.wrap ((i : Int) + 1) = ((i + 1 : Nat) : Int) := w64 (by omega) (by omega)
    have htk : (dl.take (i + 1)).filter (fun p => p.1 != n) = ms ++ [dl[i]].filter (fun p => p.1 != n) := by rw [List.take_succ_eq_append_getElem hlt2, List.filter_append, hms]
    obtain ⟨i1, hi1⟩ : ∃ i1, i1 = i + 1 := ⟨_, rfl⟩
    rw [← hi1] at hki htk
    generalize dl[i] = q at *
    obtain ⟨u1, n1⟩ := q
    simp only at hc0 hc1
    by_cases hn : u1 = n
    · have hn' : (u1 != n) = false := by simpa using hn
      simp -dsimp [go_sem, f5, f4, b0', hlt2, hc0, hc1, hn', hki]
      refine ⟨⟨i1, m, ms, by omega, rfl, ?_, hm, by omega, hG, hK⟩, by simp [intOf]; omega⟩
      rw [htk]; simp [hn]
    · have hn' : (u1 != n) = true := by simpa using hn
      simp -dsimp [go_sem, f5, f4, b0', hlt2, hc0, hc1, hn', hki]
      have ka : Nw w' (w'.alloc (.cells #[i64 u1, i64 n1] 65)) := (Kp.refl _ _).alloc _
      refine gs_app Sdue (hG.nw ka) (ys := cl kInt [(u1, n1)]) (Rd.fresh rfl rfl) (m := 1) (by simp [cl_len]) (cl_oneI _) (by omega) (by omega) (Nat.le_trans hK.size ka.size) ?_
      intro v3 w3 hG3 hK3
      rw [← cl_app] at hG3
      obtain ⟨m1, hm1⟩ : ∃ m1, m1 = m + 1 := ⟨_, rfl⟩
      rw [← hm1] at hG3
      simp -dsimp [go_sem, f5, hki]
      refine ⟨⟨i1, m1, ms ++ [(u1, n1)], by omega, rfl, ?_, by simp; omega, by omega, hG3, Nw.fr (hK.nw ka) hK3 (Nat.le_refl _)⟩, by simp [intOf]; omega⟩
      rw [htk]; simp [hn]
  · obtain rfl : i = dl.length := by omega
    rw [List.take_length] at hms
    rw [← hms]
    have b0f := (hb.kp hK fun h => h).frozen 1
    simp -dsimp [go_sem, f5, f4, b0', b0f]
    have hyl := hlt y (hF _ (.inl rfl))
    have hs : Kp (At y) w' (w'.setCell ⟨y, 1, none⟩ (.slice A m c)) := (Kp.refl _ _).setCell_at _ _
    have hAn : ∀ k, blk A k → w.heap.size ≤ k ∧ k < w'.heap.size := fun k hk => by
      obtain ⟨a, ha, rfl⟩ := blk_of hk
      exact ⟨hA a ha, hoA.lt a ha⟩
    have hoff : Off A (At y) := fun a ha e => by
      have := hA a ha
      have e : a.block = y := e
      omega
    rw [hm] at hoA hs ⊢
    refine ⟨fun k => F k ∨ blk A k, ⟨H, ch, A, c, by simpa using (hb.kp hK fun h => h).set 1 _, (ho.nw hK).kp hs h1, hoA.rd.kp hs (hoff.l _), hoA.2.1, fun k hk => ?_, h1, hoff, fun k hk hd => ?_, fun k hk => Nat.lt_of_lt_of_le ?_ hs.size⟩, fun k hk => ?_, (hK.kp F).trans hs fun k _ e => by rw [show k = y from e]; exact hF _ (.inl rfl)⟩
    · rcases hk with e | e | e
      · exact .inl (hF _ (.inl e))
      · exact .inl (hF _ (.inr (.inl e)))
      · exact .inr e
    · have h4 := hlt k (hF _ (.inr (.inl hk)))
      have := (hAn k hd).1
      omega
    · rcases hk with e | e
      · exact Nat.lt_of_lt_of_le (hlt k e) hK.size
      · exact (hAn k e).2
    · rcases hk with e | e
      · exact .inl e
      · exact .inr ⟨(hAn k e).1, Nat.lt_of_lt_of_le (hAn k e).2 hs.size⟩
end Go.Proofs.Ytfdbnlgokaapnaa
