/-
  The reference's box: New, Find, Expunge. By the session itself.
-/
import Derived.Test.YtindfpaahlijeaaBxN
namespace Go.Proofs.Ytindfpaahlijeaa
set_option linter.unusedSimpArgs false
set_option linter.unusedVariables false
set_option maxRecDepth 100000
set_option maxHeartbeats 2000000
open Go.Vc Go.RowKit

theorem rb_new (nm : ByteArray) (n : Int) (w : World) (S : Nat → Prop) : RB w (.agg #[.string nm, i64 n, i64 1, .slice none 0 0]) ⟨nm, n, 1, []⟩ S :=
  ⟨none, 0, [], rfl, rfl, Nat.le_refl _, Rd.nil _ _, fun _ h => (by cases h), fun _ h => by cases h⟩
theorem rnew_spec (nm : ByteArray) (n : Int) (w : World) : Cal Try.prog 23 #[.string nm, i64 n] w fun v w' => v = .agg #[.string nm, i64 n, i64 1, .slice none 0 0] ∧ Nw w w' := by
  refine enter Try.mixed Try.func23 rfl (by kernel_rfl) ?_
  simp -dsimp [go_sem]
  simp [go_sem]
  exact (Kp.refl _ _).alloc _
theorem ramong_spec (zs : List Int) (z : Int) (A : Option Addr) (c : Nat) (w : World) (hr : Rd w A (zs.map i64)) (hl : zs.length ≤ 1000000000) :
    Cal Try.prog 50 #[.slice A zs.length c, i64 z] w fun v w' => v = .bool (decide (z ∈ zs)) ∧ w' = w := by
  refine enter Try.mixed Try.func50 rfl (by kernel_rfl) ?_
  simp -dsimp [go_sem]
  refine loop [4, 5, 6, 7, 8, 9, 10, 11, 12, 13, 14, 15, 16, 17] (by kernel_rfl)
    (fun f w' => Box1 (fun a w' => ∃ i : Nat, a = i64 i ∧ i ≤ zs.length ∧ z ∉ zs.take i ∧ w' = w) (f 5) w') (fun f _ => zs.length - (intOf (f 5)).toNat) ⟨0, rfl, by omega, by simp, rfl⟩ ?_
  rintro f w' ⟨i, f5, hi, hno, rfl⟩
  by_cases hlt : i < zs.length
  · have hi1 : IntKind.i64.wrap ((i : Int) + 1) = ((i + 1 : Nat) : Int) := by rw [w64 (by omega) (by omega)]; omega
    obtain ⟨i1, hi1'⟩ : ∃ i1, i1 = i + 1 := ⟨_, rfl⟩
    rw [← hi1'] at hi1
    obtain ⟨g, o, rfl, e0⟩ := rd_int hr hlt
    by_cases hz : zs[i] = z
    · have hm : z ∈ zs := by rw [← hz]; exact List.getElem_mem hlt
      have hb : (zs[i] == z) = true := by simpa using hz
      simp -dsimp [go_sem, f5, hlt, e0, hb, hm]
    · have hb : (zs[i] == z) = false := by simpa using hz
      simp -dsimp [go_sem, f5, hlt, e0, hb, hi1]
      refine ⟨⟨i1, rfl, by omega, ?_, rfl⟩, by simp [intOf]; omega⟩
      rw [hi1', List.take_succ_eq_append_getElem hlt, List.mem_append, List.mem_singleton]
      exact fun h => h.elim hno fun h => hz h.symm
  · obtain rfl : i = zs.length := by omega
    rw [List.take_length] at hno
    simp -dsimp [go_sem, f5, hno]
theorem rfind_spec (v : Value) (b : Bx) (S : Nat → Prop) (u : Int) (w : World) (h : RB w v b S) (hll : b.L.length ≤ 1000000) :
    Cal Try.prog 43 #[v, i64 u] w fun v' w' => v' = i64 (findB b.L u) ∧ Nw w w' := by
  obtain ⟨A, c, q, rfl, hq, hc, hr, ho, hb⟩ := h
  have hql : q.length = b.L.length := by rw [← hq, List.length_map]
  refine enter Try.mixed Try.func43 rfl (by kernel_rfl) ?_
  have k0 : Nw w (w.alloc (.cells #[.string b.name, i64 b.val, i64 b.next, .slice A b.L.length c] 26)) := (Kp.refl _ _).alloc _
  have hb0 : Blk (w.alloc (.cells #[.string b.name, i64 b.val, i64 b.next, .slice A b.L.length c] 26)) w.heap.size 26 #[.string b.name, i64 b.val, i64 b.next, .slice A b.L.length c] := Blk.new _ _ _
  obtain ⟨x, hx⟩ : ∃ x, x = w.heap.size := ⟨_, rfl⟩
  simp -dsimp [go_sem]
  rw [← hx] at hb0 ⊢
  generalize w.alloc (.cells #[.string b.name, i64 b.val, i64 b.next, .slice A b.L.length c] 26) = wa at *
  have c3 := hb0.cell 3
  refine loop [4, 5, 6, 7, 8, 9, 10, 11, 12, 13, 14, 15, 16, 17, 18, 19, 20, 21] (by kernel_rfl)
    (fun f w' => Box1 (fun a w' => ∃ i : Nat, a = i64 i ∧ i ≤ b.L.length ∧ (∀ j (hj : j < b.L.length), j < i → b.L[j].uid ≠ u) ∧ w' = wa) (f 5) w') (fun f _ => b.L.length - (intOf (f 5)).toNat)
    ⟨0, rfl, by omega, fun _ _ h => by omega, rfl⟩ ?_
  rintro f w' ⟨i, f5, hi, hno, rfl⟩
  by_cases hlt : i < b.L.length
  · have hi1 : IntKind.i64.wrap ((i : Int) + 1) = ((i + 1 : Nat) : Int) := by rw [w64 (by omega) (by omega)]; omega
    obtain ⟨i1, hi1'⟩ : ∃ i1, i1 = i + 1 := ⟨_, rfl⟩
    rw [← hi1'] at hi1
    have hltq : i < q.length := by omega
    obtain ⟨g, o, rfl, e0, e1, e2, e3⟩ := msg_at (hr.nw k0) hltq
    have hqi : q[i].1 = b.L[i] := by simp only [← hq, List.getElem_map]
    rw [hqi] at e0
    by_cases hu : b.L[i].uid = u
    · have hf := findB_first b.L u i hlt hu hno
      have hb : (b.L[i].uid == u) = true := by simpa using hu
      simp -dsimp [go_sem, f5, c3, hlt, e0, hb, hf]
      exact k0
    · have hb : (b.L[i].uid == u) = false := by simpa using hu
      simp -dsimp [go_sem, f5, c3, hlt, e0, hb, hi1]
      refine ⟨⟨i1, rfl, by omega, fun j hj hji => ?_, rfl⟩, by simp [intOf]; omega⟩
      by_cases hje : j = i
      · subst hje; exact hu
      · exact hno j hj (by omega)
  · obtain rfl : i = b.L.length := by omega
    have hf := findB_none b.L u fun m hm => by
      obtain ⟨j, hj, rfl⟩ := List.getElem_of_mem hm
      exact hno j hj hj
    simp -dsimp [go_sem, f5, c3, hf]
    exact k0
def RExp (v : Value) (w' : World) (b : Bx) (gone : List Int) (S : Nat → Prop) : Prop := ∃ bv A n c, v = .tuple #[bv, .slice A n c] ∧ n = gone.length ∧ RB w' bv b S ∧ Rd w' A (gone.map i64) ∧ Ofl A (gone.map i64) S
theorem rexpunge_spec (v : Value) (b : Bx) (S : Nat → Prop) (uids : List Int) (X : Option Addr) (xc : Nat) (w : World) (h : RB w v b S) (hS : ∀ k, S k → k < w.heap.size) (hl : b.L.length ≤ 1000000) (hx : Rd w X (uids.map i64)) (hxl : uids.length ≤ 1000000000) :
    Cal Try.prog 41 #[v, .slice X uids.length xc] w fun v' w' => RExp v' w' { b with L := stayB uids b.L } (goneB uids b.L) S ∧ Nw w w' := by
  obtain ⟨A, c, q, rfl, hq, hc, hr, ho, hb⟩ := id h
  have hql : q.length = b.L.length := by rw [← hq, List.length_map]
  refine enter Try.mixed Try.func41 rfl (by kernel_rfl) ?_
  simp -dsimp [go_sem]
  obtain ⟨x, hx', hb0, hz0, hsz, n0⟩ := two_new w 26 26 #[.string b.name, i64 b.val, i64 b.next, .slice A b.L.length c] #[.string ⟨#[]⟩, i64 0, i64 0, .slice none 0 0]
  rw [← hx']
  generalize (w.alloc (.cells #[.string b.name, i64 b.val, i64 b.next, .slice A b.L.length c] 26)).alloc (.cells #[.string ⟨#[]⟩, i64 0, i64 0, .slice none 0 0] 26) = wa at *
  obtain ⟨M, hM⟩ : ∃ M, M = wa.heap.size := ⟨_, rfl⟩
  have hxM : x + 1 < M := by rw [hM]; exact hz0.lt
  have hwM : w.heap.size ≤ M := by rw [hM]; exact n0.size
  refine loop [6, 7, 8, 9, 10, 11, 12, 13, 14, 15, 16, 17, 18, 19, 20, 21, 22, 23, 24, 25, 26, 27, 28, 29, 30, 31, 32, 33, 34, 35, 36, 37, 38, 39, 40] (by kernel_rfl)
    (fun f w' => Box3 (fun a vs vg w' => ∃ (i ns ng : Nat) (qs : MQ) (gl : List Int) (As Ag : Option Addr) (cs cg : Nat), qs = stayQ uids (q.take i) ∧ gl = goneB uids ((q.take i).map Prod.fst) ∧ ns = qs.length ∧ ng = gl.length ∧ a = i64 i ∧ i ≤ q.length ∧ vs = .slice As ns cs ∧ vg = .slice Ag ng cg ∧
      Ow w' 42 4 As ns cs (mq qs) ∧ Ow w' 3 1 Ag ng cg (gl.map i64) ∧
      (∀ k, blk As k → M ≤ k) ∧ (∀ k, blk Ag k → M ≤ k) ∧ (∀ k, blk As k → ¬ blk Ag k) ∧ Kp (Fr M) wa w') (f 8) (f 6) (f 7) w') (fun f _ => q.length - (intOf (f 8)).toNat)
    ⟨0, 0, 0, [], [], none, none, 0, 0, rfl, rfl, rfl, rfl, rfl, by omega, rfl, rfl, Ow.nil _ _ _, Ow.nil _ _ _, (fun k h => h.elim), (fun k h => h.elim), (fun k h => h.elim), Kp.refl _ _⟩ ?_
  rintro f w' ⟨i, ns, ng, qs, gl, As, Ag, cs, cg, hqs, hgl', hns, hng, f8, hi, f6, f7, hos, hog, hAs, hAg, hsg, hK⟩
  have hsl : ns ≤ 1000000 := by
    have := List.length_filter_le (fun p : Msg × Value => !decide (p.1.uid ∈ uids)) (q.take i)
    rw [List.length_take] at this
    rw [hns, hqs]
    unfold stayQ; omega
  have hgl : ng ≤ 1000000 := by
    have := gone_len uids ((q.take i).map Prod.fst)
    rw [List.length_map, List.length_take] at this
    rw [hng, hgl']
    omega
  have n1 : Nw w w' := Nw.fr n0 hK hwM
  have hbx := hb0.kp hK (by show ¬ M ≤ x; omega)
  have c3 : w'.cell? ⟨x, 3, none⟩ = some (.slice A b.L.length c) := hbx.cell 3
  by_cases hlt : i < q.length
  · have hlt' : i < b.L.length := by omega
    have hi1 : IntKind.i64.wrap ((i : Int) + 1) = ((i + 1 : Nat) : Int) := by rw [w64 (by omega) (by omega)]; omega
    obtain ⟨i1, hi1'⟩ : ∃ i1, i1 = i + 1 := ⟨_, rfl⟩
    rw [← hi1'] at hi1
    obtain ⟨g, o, rfl, e0, e1, e2, e3⟩ := msg_at (hr.nw n1) hlt
    have hbm := hb _ (List.getElem_mem hlt)
    have htk : q.take i1 = q.take i ++ [q[i]] := by rw [hi1', List.take_succ_eq_append_getElem hlt]
    generalize q[i] = p at *
    obtain ⟨m, mv⟩ := p
    simp only at e0 e1 e2 e3 hbm
    obtain ⟨Bm, dm, rfl, hom, hBm⟩ := id hbm
    simp -dsimp [go_sem, f8, hlt', c3, e0]
    refine call (ramong_spec uids m.uid X xc _ (hx.nw n1) hxl) ?_
    rintro v4 w4 ⟨rfl, rfl⟩
    have hMw : M ≤ w4.heap.size := by rw [hM]; exact hK.size
    have hAsl : ∀ k, blk As k → k < w4.heap.size := fun k hk => by
      obtain ⟨a, rfl, rfl⟩ := blk_of hk
      exact hos.lt a rfl
    have hAgl : ∀ k, blk Ag k → k < w4.heap.size := fun k hk => by
      obtain ⟨a, rfl, rfl⟩ := blk_of hk
      exact hog.lt a rfl
    by_cases hu : m.uid ∈ uids
    · have hstay : qs = stayQ uids (q.take i1) := by rw [htk, hqs]; unfold stayQ; rw [List.filter_append]; simp [hu]
      have hgone : gl ++ [m.uid] = goneB uids ((q.take i1).map Prod.fst) := by rw [htk, hgl']; unfold goneB; simp [hu]
      simp -dsimp [go_sem, hu, f7, f8, c3, e0, hlt']
      have kb : Nw w4 (w4.alloc (.cells #[i64 m.uid] 3)) := (Kp.refl _ _).alloc _
      refine app Try.Sint (hog.nw kb) (ys := [i64 m.uid]) (Rd.fresh rfl rfl) (m := 1) rfl (by simp; rfl) (by omega) (by omega) ?_
      intro A5 c5 w5 ho5 hk5 hAA
      have hk45 : Kp (blk Ag) w4 w5 := (Nw.kp kb _).trans hk5 fun _ _ h => h
      rw [show gl.map i64 ++ [i64 m.uid] = (gl ++ [m.uid]).map i64 by simp] at ho5
      obtain ⟨n5, hn5⟩ : ∃ n5, n5 = ng + 1 := ⟨_, rfl⟩
      rw [← hn5] at ho5 ⊢
      simp -dsimp [go_sem, f8, f6, hi1]
      refine ⟨⟨i1, ns, n5, qs, gl ++ [m.uid], As, A5, cs, c5, hstay, hgone, hns, by rw [List.length_append, hn5, hng]; rfl, rfl, by omega, rfl, rfl, hos.kp hk45 (Off.of_blk fun k hk => hsg k hk), ho5, hAs, fun k hk => ?_, fun k hk hk' => ?_, hK.trans hk45 fun k _ h => hAg k h⟩, by simp [intOf]; omega⟩
      · rcases hAA with rfl | ⟨rfl, _⟩
        · exact hAg k hk
        · have hk : k = (w4.alloc (.cells #[i64 m.uid] 3)).heap.size := hk
          rw [hk]; exact Nat.le_trans hMw kb.size
      · rcases hAA with rfl | ⟨rfl, _⟩
        · exact hsg k hk hk'
        · have hk' : k = (w4.alloc (.cells #[i64 m.uid] 3)).heap.size := hk'
          have := hAsl k hk
          have := kb.size
          omega
    · have hstay : qs ++ [(m, .slice Bm m.body.length dm)] = stayQ uids (q.take i1) := by rw [htk, hqs]; unfold stayQ; rw [List.filter_append]; simp [hu]
      have hgone : gl = goneB uids ((q.take i1).map Prod.fst) := by rw [htk, hgl']; unfold goneB; simp [hu]
      simp -dsimp [go_sem, hu, f6, f8, c3, e0, e1, e2, e3, hlt']
      have kb : Nw w4 (w4.alloc (.cells #[i64 m.uid, i64 m.flags, i64 m.date, .slice Bm m.body.length dm] 42)) := (Kp.refl _ _).alloc _
      refine app Smsg (hos.nw kb) (ys := mq [(m, .slice Bm m.body.length dm)]) (Rd.fresh rfl rfl) (m := 1) rfl (fun u hu => by
        simp [mq] at hu
        rcases hu with rfl | rfl | rfl | rfl
        · rfl
        · rfl
        · rfl
        · cases Bm <;> rfl) (by omega) (by omega) ?_
      intro A5 c5 w5 ho5 hk5 hAA
      have hk45 : Kp (blk As) w4 w5 := (Nw.kp kb _).trans hk5 fun _ _ h => h
      rw [← mq_app] at ho5
      obtain ⟨n5, hn5⟩ : ∃ n5, n5 = ns + 1 := ⟨_, rfl⟩
      rw [← hn5] at ho5 ⊢
      simp -dsimp [go_sem, f8, f7, hi1]
      refine ⟨⟨i1, n5, ng, _, gl, A5, Ag, c5, cg, hstay, hgone, by rw [List.length_append, hn5, hns]; rfl, hng, rfl, by omega, rfl, rfl, ho5, hog.kp hk45 (Off.of_blk fun k hk h => hsg k h hk), fun k hk => ?_, hAg, fun k hk hk' => ?_, hK.trans hk45 fun k _ h => hAs k h⟩, by simp [intOf]; omega⟩
      · rcases hAA with rfl | ⟨rfl, _⟩
        · exact hAs k hk
        · have hk : k = (w4.alloc (.cells #[i64 m.uid, i64 m.flags, i64 m.date, .slice Bm m.body.length dm] 42)).heap.size := hk
          rw [hk]; exact Nat.le_trans hMw kb.size
      · rcases hAA with rfl | ⟨rfl, _⟩
        · exact hsg k hk hk'
        · have hk : k = (w4.alloc (.cells #[i64 m.uid, i64 m.flags, i64 m.date, .slice Bm m.body.length dm] 42)).heap.size := hk
          have := hAgl k hk'
          have := kb.size
          omega
  · obtain rfl : i = q.length := by omega
    have hge : ¬ q.length < b.L.length := by omega
    rw [List.take_length] at hqs hgl'
    rw [hq] at hgl'
    have hz' := hz0.kp hK (by show ¬ M ≤ x + 1; omega)
    have f3 := hbx.frozen 3
    have ks : Kp (At x) w' (w'.setCell ⟨x, 3, none⟩ (.slice As ns cs)) := (Kp.refl _ _).setCell_at _ _
    have hb4 : Blk (w'.setCell ⟨x, 3, none⟩ (.slice As ns cs)) x 26 #[.string b.name, i64 b.val, i64 b.next, .slice As ns cs] := by simpa using hbx.set 3 (.slice As ns cs)
    have hz4 := hz'.kp ks (by show ¬ x + 1 = x; omega)
    have n4 := n1.at_ ks fun k (e : k = x) => by omega
    have hos4 := hos.kp ks (Off.of_blk fun k hk (e : k = x) => by have := hAs k hk; omega)
    have hog4 := hog.kp ks (Off.of_blk fun k hk (e : k = x) => by have := hAg k hk; omega)
    have c0 := hb4.cell 0
    have c1 := hb4.cell 1
    have c2 := hb4.cell 2
    have c3' := hb4.cell 3
    have z0 := hz4.cell 0
    have z1 := hz4.cell 1
    have z2 := hz4.cell 2
    have z3 := hz4.cell 3
    have g0 := hz4.frozen 0
    have g1 := hz4.frozen 1
    have g2 := hz4.frozen 2
    have g3 := hz4.frozen 3
    simp -dsimp [go_sem, f8, hge, f6, f7, c3, f3, c0, c1, c2, c3', z0, z1, z2, z3, g0, g1, g2, g3]
    have ks2 := kp_set4 (w'.setCell ⟨x, 3, none⟩ (.slice As ns cs)) (x + 1) (.string b.name) (i64 b.val) (i64 b.next) (.slice As ns cs)
    have n5 := n4.at_ ks2 fun k (e : k = x + 1) => by omega
    have hsf : qs.map Prod.fst = stayB uids b.L := by rw [hqs, stayQ_fst, hq]
    have hnl : ns = (stayB uids b.L).length := by rw [hns, ← hsf, List.length_map]
    refine ⟨⟨_, Ag, ng, cg, rfl, by rw [hng, hgl'], ⟨As, cs, qs, by rw [hnl], hsf, by rw [← hnl]; exact hos.2.1, (hos4.kp ks2 (Off.of_blk fun k hk (e : k = x + 1) => by have := hAs k hk; omega)).rd, fun a ha _ hk => ?_, fun p hp => ?_⟩, ?_⟩, n5⟩
    · have := hAs a.block (by rw [ha]; rfl)
      have := hS _ hk
      omega
    · rw [hqs] at hp
      exact (hb p (List.mem_filter.1 hp).1).nw n5
    · rw [← hgl']
      refine ⟨(hog4.kp ks2 (Off.of_blk fun k hk (e : k = x + 1) => by have := hAg k hk; omega)).rd, fun a ha _ hk => ?_⟩
      have := hAg a.block (by rw [ha]; rfl)
      have := hS _ hk
      omega
end Go.Proofs.Ytindfpaahlijeaa
