/-
  lock's reference: Due walked; that lists and maps tell the same. By the session itself.
-/
import Derived.Test.YtfdbnlgokaapnaaLkG
namespace Go.Proofs.Ytfdbnlgokaapnaa
set_option linter.unusedSimpArgs false
set_option linter.unusedVariables false
set_option maxRecDepth 100000
set_option maxHeartbeats 1000000
open Go.Vc Go.RowKit

def dueL (dl : List (Int × Int)) (n : Int) : List Int := (dl.filter fun p => decide (p.2 ≤ n)).map (·.1)
def DueQ (w : World) (dl : List (Int × Int)) (n : Int) (v : Value) (w' : World) : Prop := (∃ A c, v = .slice A (dueL dl n).length c ∧ Rd w' A ((dueL dl n).map i64)) ∧ Nw w w'
theorem rDue_spec (y : Nat) (hl : List (ByteArray × Int)) (dl : List (Int × Int)) (F : Nat → Prop) (n : Int) (w : World) (h : RefL w y hl dl F) (hll : dl.length ≤ 1000) :
    Cal Try.prog 19 #[.pointer (some ⟨y, 0, none⟩), i64 n] w fun v w' => DueQ w dl n v w' := by
  obtain ⟨H, ch, D, cd, hb, ho, hr, hc, hF, h1, h2, h3, hlt⟩ := id h
  refine enter Try.mixed Try.func19 rfl (by kernel_rfl) ?_
  simp -dsimp [go_sem]
  refine loop [5, 6, 7, 8, 9, 10, 11, 12, 13, 14, 15, 16, 17, 18, 19, 20, 21, 22, 23, 24, 25, 26, 27, 28, 29, 30, 31, 32, 33, 34, 35, 36] (by kernel_rfl)
    (fun f w' => Box2 (fun a x w' => ∃ (i m : Nat) (ms : List Int), i ≤ dl.length ∧ a = i64 i ∧ ms = dueL (dl.take i) n ∧ m = ms.length ∧ m ≤ i ∧ Gs w' 3 1 x m (ms.map i64) w.heap.size ∧ Nw w w') (f 6) (f 5) w') (fun f _ => dl.length - (intOf (f 6)).toNat) ⟨0, 0, [], Nat.zero_le _, rfl, rfl, rfl, Nat.le_refl _, Gs.nil _ _ _ _, Kp.refl _ _⟩ ?_
  rintro f w' ⟨i, m, ms, hi, f6, hms, hm, hmi, hG, hK⟩
  have b1 := (hb.kp hK fun h => h).cell 1
  obtain ⟨A, c, f5, hoA, hA⟩ := id hG
  rw [f5] at hG
  by_cases hlt2 : i < dl.length
  · obtain ⟨c0, c1⟩ := cl_at kInt dl i hlt2
    have hr' := hr.nw hK
    obtain ⟨b, o, rfl, hc0⟩ := hr' _ _ c0
    obtain ⟨b', o', e, hc1⟩ := hr' _ _ c1
    cases e
    rw [← Nat.add_assoc] at hc1
    have hki : IntKind.i64.wrap ((i : Int) + 1) = ((i + 1 : Nat) : Int) := w64 (by omega) (by omega)
    have htk : dueL (dl.take (i + 1)) n = ms ++ dueL [dl[i]] n := by
      unfold dueL at hms ⊢
      rw [List.take_succ_eq_append_getElem hlt2, List.filter_append, List.map_append, hms]
    obtain ⟨i1, hi1⟩ : ∃ i1, i1 = i + 1 := ⟨_, rfl⟩
    rw [← hi1] at hki htk
    generalize dl[i] = q at *
    obtain ⟨u1, n1⟩ := q
    simp only at hc0 hc1
    by_cases hn : n1 ≤ n
    · simp -dsimp [go_sem, f6, f5, b1, hlt2, hc0, hc1, hn, hki]
      have ka : Nw w' (w'.alloc (.cells #[i64 u1] 3)) := (Kp.refl _ _).alloc _
      refine gs_app Try.Sint (hG.nw ka) (Rd.fresh (xs := [i64 u1]) rfl rfl) (m := 1) (by simp) (by simp [Value.oneCell']) (by omega) (by omega) (Nat.le_trans hK.size ka.size) ?_
      intro v3 w3 hG3 hK3
      obtain ⟨m1, hm1⟩ : ∃ m1, m1 = m + 1 := ⟨_, rfl⟩
      rw [← hm1, show ms.map i64 ++ [i64 u1] = (ms ++ [u1]).map i64 by simp] at hG3
      simp -dsimp [go_sem, f6, hki]
      refine ⟨⟨i1, m1, ms ++ [u1], by omega, rfl, ?_, by simp; omega, by omega, hG3, Nw.fr (hK.nw ka) hK3 (Nat.le_refl _)⟩, by simp [intOf]; omega⟩
      rw [htk]; simp [dueL, hn]
    · simp -dsimp [go_sem, f6, f5, b1, hlt2, hc0, hc1, hn, hki]
      refine ⟨⟨i1, m, ms, by omega, rfl, ?_, hm, by omega, hG, hK⟩, by simp [intOf]; omega⟩
      rw [htk]; simp [dueL, hn]
  · obtain rfl : i = dl.length := by omega
    rw [List.take_length] at hms
    simp -dsimp [go_sem, f6, f5, b1]
    exact ⟨⟨A, c, by rw [hm, hms], by rw [← hms]; exact hoA.rd⟩, hK⟩

theorem takeF_look (hl : List (ByteArray × Int)) (u : ByteArray) (n : Int) : takeF (gLook hl) u n = gLook (takeL hl u n) := by
  unfold takeF takeL
  split
  · rename_i h
    funext x
    rw [gLook_app]
    by_cases hx : x = u
    · subst hx
      simp [h, gLook]
    · have hx' : ¬ u = x := fun e => hx e.symm
      simp only [gLook, if_neg hx, if_neg hx']
      split
      · rename_i e; exact e
      · rfl
  · rfl
theorem takeL_nd {hl : List (ByteArray × Int)} (nd : (hl.map (·.1)).Nodup) (u : ByteArray) (n : Int) : ((takeL hl u n).map (·.1)).Nodup := by
  unfold takeL
  split
  · rename_i h
    have := gLook_not.1 h
    rw [List.map_append]
    exact List.nodup_append.2 ⟨nd, by simp, fun a ha b hb e => by
      obtain rfl : b = u := by simpa using hb
      subst e
      exact this ha⟩
  · exact nd
theorem takeL_len (hl : List (ByteArray × Int)) (u : ByteArray) (n : Int) : (takeL hl u n).length ≤ hl.length + 1 := by
  unfold takeL
  split <;> simp
theorem freeF_look {hl : List (ByteArray × Int)} (nd : (hl.map (·.1)).Nodup) (n : Int) : freeF (gLook hl) n = gLook (hl.filter fun p => p.2 != n) := by
  funext u
  apply Option.ext
  intro c
  rw [gLook_mem (filter_nd nd _), List.mem_filter, ← gLook_mem nd]
  unfold freeF
  split
  · rename_i h
    simp only [h]
    constructor
    · intro e; cases e
    · rintro ⟨e, h2⟩
      injection e with e
      simp [e] at h2
  · rename_i h
    constructor
    · intro e
      refine ⟨e, ?_⟩
      simp only [bne_iff_ne, ne_eq]
      rintro rfl
      exact h e
    · exact fun e => e.1
theorem srt_nd {dl : List (Int × Int)} (s : dl.Pairwise fun p q => p.1 < q.1) : (dl.map (·.1)).Nodup := List.pairwise_map.2 (s.imp fun h e => by omega)
theorem forgetD_look {dl : List (Int × Int)} (s : dl.Pairwise fun p q => p.1 < q.1) (c : Int) : forgetD (gLook dl) c = gLook (dl.filter fun p => p.1 != c) := by
  funext u
  apply Option.ext
  intro a
  rw [gLook_mem (filter_nd (srt_nd s) _), List.mem_filter, ← gLook_mem (srt_nd s)]
  unfold forgetD
  by_cases hu : u = c
  · subst hu; simp
  · rw [if_neg hu]; simp [hu]
theorem insL_look (d : List (Int × Int)) (c a x : Int) : gLook (insL d c a) x = if x = c then some a else gLook d x := by
  induction d with
  | nil =>
    simp only [insL, gLook]
    by_cases h : x = c
    · simp [h]
    · simp [h]
      exact fun e => h e.symm
  | cons p r ih =>
    simp only [insL]
    split
    · rename_i hp
      simp only [gLook, ih]
      by_cases h : p.1 = x
      · rw [if_pos h, if_neg (by omega), if_pos h]
      · simp only [if_neg h]
    · simp only [gLook]
      by_cases h : x = c
      · simp [h]
      · rw [if_neg (fun e : c = x => h e.symm), if_neg h]
theorem insL_mem {d : List (Int × Int)} {c a : Int} {q : Int × Int} : q ∈ insL d c a ↔ q = (c, a) ∨ q ∈ d := by
  induction d with
  | nil => simp [insL]
  | cons p r ih =>
    simp only [insL]
    split
    · simp only [List.mem_cons, ih]
      constructor
      · rintro (h | h | h)
        · exact .inr (.inl h)
        · exact .inl h
        · exact .inr (.inr h)
      · rintro (h | h | h)
        · exact .inr (.inl h)
        · exact .inl h
        · exact .inr (.inr h)
    · simp [List.mem_cons]
theorem insL_srt {d : List (Int × Int)} (s : d.Pairwise fun p q => p.1 < q.1) {c : Int} (hc : ∀ p ∈ d, p.1 ≠ c) (a : Int) : (insL d c a).Pairwise fun p q => p.1 < q.1 := by
  induction d with
  | nil => simp [insL]
  | cons p r ih =>
    have s' := List.pairwise_cons.1 s
    simp only [insL]
    split
    · rename_i hp
      refine List.pairwise_cons.2 ⟨fun q hq => ?_, ih s'.2 fun q hq => hc q (by simp [hq])⟩
      rcases insL_mem.1 hq with rfl | hq
      · exact hp
      · exact s'.1 q hq
    · rename_i hp
      have h0 := hc p (by simp)
      refine List.pairwise_cons.2 ⟨fun q hq => ?_, s⟩
      rcases List.mem_cons.1 hq with rfl | hq
      · show c < _; omega
      · have := s'.1 q hq
        show c < _; omega
theorem insL_len (d : List (Int × Int)) (c a : Int) : (insL d c a).length = d.length + 1 := by
  induction d with
  | nil => rfl
  | cons p r ih =>
    simp only [insL]
    split <;> simp [ih]
theorem touchD_look {dl : List (Int × Int)} (s : dl.Pairwise fun p q => p.1 < q.1) (c a : Int) : touchD (gLook dl) c a = gLook (touchL dl c a) := by
  funext x
  unfold touchL touchD
  rw [insL_look, ← forgetD_look s]
  unfold forgetD
  split <;> rfl
theorem touchL_srt {dl : List (Int × Int)} (s : dl.Pairwise fun p q => p.1 < q.1) (c a : Int) : (touchL dl c a).Pairwise fun p q => p.1 < q.1 :=
  insL_srt (s.filter _) (fun p hp => by simpa using (List.mem_filter.1 hp).2) a
theorem touchL_len (dl : List (Int × Int)) (c a : Int) : (touchL dl c a).length ≤ dl.length + 1 := by
  unfold touchL
  rw [insL_len]
  have := List.length_filter_le (fun p : Int × Int => p.1 != c) dl
  omega
theorem due_same {dl : List (Int × Int)} (s : dl.Pairwise fun p q => p.1 < q.1) {n : Int} {ks : List Int} (nd : ks.Nodup) (h : ∀ x, x ∈ ks ↔ ∃ a, gLook dl x = some a ∧ a ≤ n) : srtI ks = dueL dl n := by
  have s2 : (dueL dl n).Pairwise (· < ·) := List.pairwise_map.2 (s.filter _)
  have nd2 : (dueL dl n).Nodup := s2.imp fun h e => by omega
  have hp : ks.Perm (dueL dl n) := (List.perm_ext_iff_of_nodup nd nd2).2 fun x => by
    rw [h x]
    unfold dueL
    simp only [List.mem_map, List.mem_filter, decide_eq_true_eq]
    constructor
    · rintro ⟨a, h1, h2⟩
      exact ⟨(x, a), ⟨(gLook_mem (srt_nd s)).1 h1, h2⟩, rfl⟩
    · rintro ⟨⟨x', a⟩, ⟨h1, h2⟩, rfl⟩
      exact ⟨a, (gLook_mem (srt_nd s)).2 h1, h2⟩
  refine List.Perm.eq_of_pairwise (le := fun a b : Int => decide (a ≤ b) = true) (fun a b _ _ h1 h2 => ?_) (List.pairwise_mergeSort (fun a b c h1 h2 => ?_) (fun a b => ?_) ks) (s2.imp fun h => ?_) ((List.mergeSort_perm ks _).trans hp)
  · simp only [decide_eq_true_eq] at h1 h2; omega
  · simp only [decide_eq_true_eq] at *; omega
  · simp only [Bool.or_eq_true, decide_eq_true_eq]; omega
  · simp only [decide_eq_true_eq]; omega
theorem fin_look {dl : List (Int × Int)} {ks : List Int} (nd : ks.Nodup) (h : ∀ c ∈ ks, (gLook dl c).isSome = true) (hl : dl.length ≤ 1000) : ks.length ≤ 1000 := by
  have := nodup_le (l := dl.map (·.1)) nd fun x hx => by
    have h1 := h x hx
    by_cases hn : x ∈ dl.map (·.1)
    · exact hn
    · rw [gLook_not.2 hn] at h1
      cases h1
  simp at this
  omega
end Go.Proofs.Ytfdbnlgokaapnaa
