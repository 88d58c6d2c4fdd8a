/-
  box: slices.Clone of messages, copied walked. By the session itself.
-/
import Derived.Test.YtindfpaahlijeaaDoorBxA
import Derived.Test.YtindfpaahlijeaaDoorVd
namespace Go.Proofs.YtindfpaahlijeaaDoor
set_option linter.unusedSimpArgs false
set_option linter.unusedVariables false
set_option maxRecDepth 100000
set_option maxHeartbeats 1000000
open Go.Vc Go.RowKit

theorem cloneM_spec (A : Option Addr) (n c : Nat) (q : MQ) (S : Nat → Prop) (w : World) (hn : n = q.length) (hr : Rd w A (mq q)) (hb : Bds w q S) (hl : q.length ≤ 1000000) :
    Cal Tryd.prog 57 #[.slice A n c] w fun v w' => Gs w' 41 4 v n (mq q) w.heap.size ∧ Nw w w' := by
  subst hn
  refine enter Tryd.mixed Tryd.func57 rfl (by kernel_rfl) ?_
  simp -dsimp [go_sem]
  refine cond_b (fun h => ?_) (fun h => ?_)
  · obtain rfl : A = none := by simpa using h
    have hn : q = [] := by
      cases q with
      | nil => rfl
      | cons b t => obtain ⟨_, _, e, _⟩ := hr 0 _ rfl; cases e
    subst hn
    simp -dsimp [go_sem]
    exact ⟨Gs.nil _ _ _ _, Kp.refl _ _⟩
  · simp -dsimp [go_sem]
    have ka : Nw w (w.alloc (.cells #[] 41)) := (Kp.refl _ _).alloc _
    refine gs_app Smsg (B := w.heap.size) (xs := []) (n := 0) (ys := mq q) (m := q.length) (Gs.made w 41 4 0 #[] rfl rfl rfl (by simp [maxLen]) (Nat.le_refl _)) (hr.nw ka) (mq_len q) (mq_one hb) (by omega) (by omega) ka.size ?_
    intro v' w' hG hk
    simp -dsimp [go_sem]
    refine ⟨by simpa using hG, Nw.fr ka hk (Nat.le_refl _)⟩

theorem copied_spec (v : Value) (b : Bx) (S : Nat → Prop) (w : World) (h : RB w v b S) (hl : b.L.length ≤ 1000000) (hbl : ∀ m ∈ b.L, m.body.length ≤ 1000000000) :
    Cal Tryd.prog 43 #[v] w fun v w' => OB w' v b w.heap.size ∧ Nw w w' := by
  obtain ⟨A, c, q, rfl, hq, hc, hr, ho, hb⟩ := h
  have hql : q.length = b.L.length := by rw [← hq, List.length_map]
  refine enter Tryd.mixed Tryd.func43 rfl (by kernel_rfl) ?_
  simp -dsimp [go_sem]
  have k0 : Nw w (w.alloc (.cells #[.string b.name, i64 b.val, i64 b.next, .slice A b.L.length c] 24)) := (Kp.refl _ _).alloc _
  have kz := k0.alloc (.cells #[.string ⟨#[]⟩, i64 0, i64 0, .slice none 0 0] 24)
  refine call (cloneM_spec A b.L.length c q (fun _ => False) _ hql.symm (hr.nw kz) (fun p hp => (hb p hp).any.nw kz) (by omega)) ?_
  rintro v w1 ⟨hG, hk1⟩
  obtain ⟨x, hx⟩ : ∃ x, x = w.heap.size := ⟨_, rfl⟩
  have hB1 : Blk ((w.alloc (.cells #[.string b.name, i64 b.val, i64 b.next, .slice A b.L.length c] 24)).alloc (.cells #[.string ⟨#[]⟩, i64 0, i64 0, .slice none 0 0] 24)) x 24 #[.string b.name, i64 b.val, i64 b.next, .slice A b.L.length c] := (Blk.fresh hx).kp ((Kp.refl (fun _ => False) _).alloc _) fun h => h
  have hB2 : Blk ((w.alloc (.cells #[.string b.name, i64 b.val, i64 b.next, .slice A b.L.length c] 24)).alloc (.cells #[.string ⟨#[]⟩, i64 0, i64 0, .slice none 0 0] 24)) (x + 1) 24 #[.string ⟨#[]⟩, i64 0, i64 0, .slice none 0 0] := Blk.fresh (by rw [hx]; simp)
  have hsz : ((w.alloc (.cells #[.string b.name, i64 b.val, i64 b.next, .slice A b.L.length c] 24)).alloc (.cells #[.string ⟨#[]⟩, i64 0, i64 0, .slice none 0 0] 24)).heap.size = x + 2 := by rw [hx]; simp
  rw [hsz] at hG
  rw [← hx]
  generalize (w.alloc (.cells #[.string b.name, i64 b.val, i64 b.next, .slice A b.L.length c] 24)).alloc (.cells #[.string ⟨#[]⟩, i64 0, i64 0, .slice none 0 0] 24) = wa at *
  have hb1 := hB1.nw hk1
  have hb2 := hB2.nw hk1
  have n1 := kz.nw hk1
  have f13 := hb1.frozen 3
  have c13 := hb1.cell 3
  obtain ⟨A', c', rfl, ho', hA'⟩ := hG
  have hs1 : Kp (At x) w1 (w1.setCell ⟨x, 3, none⟩ (.slice A' b.L.length c')) := (Kp.refl _ _).setCell_at _ _
  have hb1' : Blk (w1.setCell ⟨x, 3, none⟩ (.slice A' b.L.length c')) x 24 #[.string b.name, i64 b.val, i64 b.next, .slice A' b.L.length c'] := by simpa using hb1.set 3 (.slice A' b.L.length c')
  have hb2' := hb2.kp hs1 (by show ¬ x + 1 = x; omega)
  have n2 : Nw w (w1.setCell ⟨x, 3, none⟩ (.slice A' b.L.length c')) := n1.at_ hs1 fun i (e : i = x) => by omega
  have ho2 := ho'.kp hs1 (fun a ha (e : a.block = x) => by have := hA' a ha; omega)
  have hlt1 := ho'.lt
  have hsz1 : w1.heap.size ≤ (w1.setCell ⟨x, 3, none⟩ (.slice A' b.L.length c')).heap.size := hs1.size
  have c13' := hb1'.cell 3
  simp -dsimp [go_sem, c13, f13, c13']
  generalize w1.setCell ⟨x, 3, none⟩ (.slice A' b.L.length c') = w2 at *
  obtain ⟨M, hM⟩ : ∃ M, M = w1.heap.size := ⟨_, rfl⟩
  rw [← hM] at hsz1 hlt1
  have hxM : x + 2 ≤ M := by rw [hM]; have := hk1.size; omega
  clear hs1 hb1 hb2 c13 f13 hk1 hB1 hB2 n1 ho' kz
  refine loop [3, 4, 12, 13, 14, 15, 16, 17, 18, 19, 20, 21, 22, 23, 24, 25] (by kernel_rfl)
    (fun f w' => Box1 (fun a w' => ∃ qd : MQ, a = i64 qd.length ∧ qd.length ≤ q.length ∧ (qd ++ q.drop qd.length).map Prod.fst = b.L ∧ Blk w' x 24 #[.string b.name, i64 b.val, i64 b.next, .slice A' b.L.length c'] ∧ Blk w' (x + 1) 24 #[.string ⟨#[]⟩, i64 0, i64 0, .slice none 0 0] ∧
      Ow w' 41 4 A' b.L.length c' (mq (qd ++ q.drop qd.length)) ∧ (∀ p ∈ qd, Bs w' p.2 p.1.body M) ∧ Nw w w' ∧ M ≤ w'.heap.size) (f 12) w') (fun f _ => b.L.length - (intOf (f 12)).toNat)
    ⟨[], rfl, by simp, by simpa using hq, hb1', hb2', by simpa using ho2, by simp, n2, hsz1⟩ ?_
  rintro f w3 ⟨qd, f12, hqd, hqf, hb3, hz3, ho3, hd3, n3, hM3⟩
  by_cases hlt : qd.length < q.length
  · have hlt' : qd.length < b.L.length := by omega
    have hi1 : IntKind.i64.wrap ((qd.length : Int) + 1) = ((qd.length + 1 : Nat) : Int) := by rw [w64 (by omega) (by omega)]; omega
    have hdr : q.drop qd.length = q[qd.length] :: q.drop (qd.length + 1) := List.drop_eq_getElem_cons hlt
    have hmem : q[qd.length] ∈ q := List.getElem_mem hlt
    have hpb := hb _ hmem
    have hbm : q[qd.length].1.body.length ≤ 1000000000 := hbl _ (by rw [← hq]; exact List.mem_map_of_mem hmem)
    rw [hdr] at ho3 hqf
    generalize q[qd.length] = m at *
    obtain ⟨mm, mv⟩ := m
    have hat := mq_at (qd ++ (mm, mv) :: q.drop (qd.length + 1)) qd.length (by simp)
    have hget : (qd ++ (mm, mv) :: q.drop (qd.length + 1))[qd.length]'(by simp) = (mm, mv) := by simp
    rw [hget] at hat
    replace hpb : RdB w mv mm.body S := hpb
    replace hbm : mm.body.length ≤ 1000000000 := hbm
    obtain ⟨a0, a1, a2, a3⟩ := hat
    simp only at a0 a1 a2 a3
    obtain ⟨g, o, rfl, d0⟩ := ho3.rd _ _ a0
    obtain ⟨_, _, e1, d1⟩ := ho3.rd _ _ a1
    obtain ⟨_, _, e2, d2⟩ := ho3.rd _ _ a2
    obtain ⟨_, _, e3, d3⟩ := ho3.rd _ _ a3
    cases e1; cases e2; cases e3
    obtain ⟨g', hg'⟩ := ho3.some (by omega)
    cases hg'
    rw [Nat.zero_add] at d0 d1 d2 d3
    obtain ⟨i, hi⟩ : ∃ i, i = qd.length := ⟨_, rfl⟩
    obtain ⟨i1, hi1'⟩ : ∃ i1, i1 = qd.length + 1 := ⟨_, rfl⟩
    rw [← hi1'] at hi1
    rw [← hi] at f12 hlt' hi1 d0 d1 d2 d3
    obtain ⟨B, d, rfl, hrB, hoB, hd⟩ := hpb
    have k3 : Nw w3 (w3.alloc (.cells #[i64 mm.uid, i64 mm.flags, i64 mm.date, .slice B mm.body.length d] 41)) := (Kp.refl _ _).alloc _
    have hq4 : Blk (w3.alloc (.cells #[i64 mm.uid, i64 mm.flags, i64 mm.date, .slice B mm.body.length d] 41)) w3.heap.size 41 #[i64 mm.uid, i64 mm.flags, i64 mm.date, .slice B mm.body.length d] := Blk.new _ _ _
    obtain ⟨z, hz⟩ : ∃ z, z = w3.heap.size := ⟨_, rfl⟩
    rw [← hz] at hq4
    simp -dsimp [go_sem, f12, hlt', d0, d1, d2, d3]
    rw [← hz]
    have hb4 := hb3.nw k3
    have hz4 := hz3.nw k3
    have ho4 := ho3.nw k3
    have n4 := n3.nw k3
    have hs4 : z + 1 ≤ (w3.alloc (.cells #[i64 mm.uid, i64 mm.flags, i64 mm.date, .slice B mm.body.length d] 41)).heap.size := hq4.lt
    have hd4 : ∀ p ∈ qd, Bs (w3.alloc (.cells #[i64 mm.uid, i64 mm.flags, i64 mm.date, .slice B mm.body.length d] 41)) p.2 p.1.body M := fun p hp => (hd3 p hp).nw k3
    generalize w3.alloc (.cells #[i64 mm.uid, i64 mm.flags, i64 mm.date, .slice B mm.body.length d] 41) = w4 at *
    have kd : Nw w4 w4.drew := (Kp.refl _ _).drew
    have x3 : w4.cell? ⟨x, 3, none⟩ = some (.slice (some ⟨g, 0, none⟩) b.L.length c') := hb4.cell 3
    have z3 : w4.cell? ⟨z, 3, none⟩ = some (.slice B mm.body.length d) := hq4.cell 3
    have x3d := kd.cell_some x3 fun h => h
    have z3d := kd.cell_some z3 fun h => h
    refine drawD (.take 0 (.take 1 (.take 2 (.take 3 (.take 4 (.alt 5 (.alt 6 (.take 7 (.alt 8 .done .stop)) .stop) .stop)))))) 8 (by kernel_rfl) (fun wz => Nw w4 wz) kd ?_
    simp -dsimp [go_sem, x3d, z3d]
    refine ⟨fun wz hz => by simp [hz.cell_some x3 fun h => h], fun wz hz => by simp [hz.cell_some z3 fun h => h], ?_⟩
    refine call (clone_spec B d mm.body _ (((hrB.nw n4).nw kd)) (by omega)) ?_
    rintro v5 w5 ⟨hB5, hk5⟩
    have k45 := kd.nw hk5
    have g3 : w5.frozen? ⟨g, i * 4 + 3, none⟩ = false := (ho4.nw k45).frozen _
    obtain ⟨B5, d5, rfl, ho5, hA5⟩ := hB5
    have e3 := (k3.nw k45).cell_some d3 fun h => h
    simp -dsimp [go_sem, hlt', g3, e3]
    refine ⟨k45, ?_⟩
    have ks : Kp (At g) w5 (w5.setCell ⟨g, i * 4 + 3, none⟩ (.slice B5 mm.body.length d5)) := (Kp.refl _ _).setCell_at _ _
    have hgx : x + 2 ≤ g := hA' _ rfl
    have hgM : g < M := hlt1 _ rfl
    have hsz5 : M ≤ w5.heap.size := Nat.le_trans (by omega) k45.size
    have hset := ow_set (ho4.nw k45) (i * 4 + 3) (.slice B5 mm.body.length d5)
    have hqs := mq_set_body (qd ++ (mm, .slice B mm.body.length d) :: q.drop (qd.length + 1)) qd.length (by simp) (.slice B5 mm.body.length d5)
    rw [hget] at hqs
    simp only [hi] at hset
    rw [hqs] at hset
    have hq5 : (qd ++ (mm, Value.slice B mm.body.length d) :: q.drop (qd.length + 1)).set qd.length (mm, .slice B5 mm.body.length d5) = (qd ++ [(mm, .slice B5 mm.body.length d5)]) ++ q.drop i1 := by
      rw [hi1']; simp
    rw [hq5] at hset
    simp -dsimp [go_sem, f12, hi1]
    have hl1 : (qd ++ [(mm, Value.slice B5 mm.body.length d5)]).length = i1 := by simp [hi1']
    refine ⟨⟨qd ++ [(mm, .slice B5 mm.body.length d5)], by rw [hl1], by rw [hl1]; omega, ?_, (hb4.nw k45).kp ks (by show ¬ x = g; omega), (hz4.nw k45).kp ks (by show ¬ x + 1 = g; omega), by rw [hl1, hi]; exact hset, ?_, (n4.nw k45).at_ ks (fun k (e : k = g) => by omega), Nat.le_trans hsz5 ks.size⟩, by simp [intOf]; omega⟩
    · rw [hl1, ← hqf, hi1']; simp
    · intro p hp
      rcases List.mem_append.1 hp with hp | hp
      · exact ((hd4 p hp).nw k45).kp ks fun k hk _ (e : k = g) => by omega
      · rw [List.mem_singleton.1 hp]
        refine Bs.kp (Bs.mono (⟨B5, d5, rfl, ho5, hA5⟩ : Bs w5 (.slice B5 mm.body.length d5) mm.body w4.drew.heap.size) ?_) ks fun k hk _ (e : k = g) => by omega
        exact Nat.le_trans hM3 k3.size
  · have hlen : qd.length = b.L.length := by omega
    have hge : ¬ qd.length < b.L.length := by omega
    rw [List.drop_eq_nil_of_le (by omega), List.append_nil] at hqf ho3
    have c0 := hb3.cell 0
    have c1 := hb3.cell 1
    have c2 := hb3.cell 2
    have c3 := hb3.cell 3
    have z0 := hz3.cell 0
    have z1 := hz3.cell 1
    have z2 := hz3.cell 2
    have z3 := hz3.cell 3
    have f0 := hz3.frozen 0
    have f1 := hz3.frozen 1
    have f2 := hz3.frozen 2
    have f3 := hz3.frozen 3
    simp -dsimp [go_sem, f12, hge, c0, c1, c2, c3, z0, z1, z2, z3, f0, f1, f2, f3]
    have ks := kp_set4 w3 (x + 1) (.string b.name) (i64 b.val) (i64 b.next) (.slice A' b.L.length c')
    refine ⟨⟨_, rfl, qd, A', c', rfl, hqf, ho3.kp ks fun a ha (e : a.block = x + 1) => (by have := hA' a ha; omega), fun a ha => (by have := hA' a ha; omega), fun p hp => ((BsA.of (B0 := x + 2) (hd3 p hp) (by omega) hlt1).kp ks fun k _ _ _ (e : k = x + 1) => by omega).mono (by omega)⟩, n3.at_ ks fun k (e : k = x + 1) => by omega⟩
end Go.Proofs.YtindfpaahlijeaaDoor
