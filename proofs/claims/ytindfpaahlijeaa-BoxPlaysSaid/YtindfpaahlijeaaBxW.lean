/-
  The reference's box: Mark. By the session itself.
-/
import Derived.Test.YtindfpaahlijeaaBxU
namespace Go.Proofs.Ytindfpaahlijeaa
set_option linter.unusedSimpArgs false
set_option linter.unusedVariables false
set_option maxRecDepth 100000
set_option maxHeartbeats 2000000
open Go.Vc Go.RowKit

theorem rapply_spec (mode old flags : Int) (w : World) : Cal Try.prog 51 #[i64 mode, i64 old, i64 flags] w fun v w' => v = i64 (applyF mode old flags) ∧ w' = w := by
  refine enter Try.mixed Try.func51 rfl (by kernel_rfl) ?_
  unfold applyF
  by_cases h0 : mode = 0
  · subst h0
    simp -dsimp [go_sem]
  · have h0' : (mode == 0) = false := by simpa using h0
    by_cases h1 : mode = 1
    · subst h1
      simp -dsimp [go_sem]
    · have h1' : (mode == 1) = false := by simpa using h1
      by_cases h2 : mode = 2
      · subst h2
        simp -dsimp [go_sem]
      · have h2' : (mode == 2) = false := by simpa using h2
        simp -dsimp [go_sem, h0, h0', h1, h1', h2, h2']
def RMark (v : Value) (w' : World) (b : Bx) (n : Nat) (S : Nat → Prop) : Prop := ∃ bv, v = .tuple #[bv, i64 n] ∧ RB w' bv b S
theorem rmark_spec (v : Value) (b : Bx) (S : Nat → Prop) (uids : List Int) (mode flags : Int) (X : Option Addr) (xc : Nat) (w : World) (h : RB w v b S) (hS : ∀ k, S k → k < w.heap.size) (hl : b.L.length ≤ 1000000) (hx : Rd w X (uids.map i64)) (hxl : uids.length ≤ 1000000000) :
    Cal Try.prog 40 #[v, .slice X uids.length xc, i64 mode, i64 flags] w fun v' w' => RMark v' w' { b with L := b.L.map (mk1 uids mode flags) } (markN uids mode flags b.L) S ∧ Nw w w' := by
  obtain ⟨A, c, q, rfl, hq, hc, hr, ho, hb⟩ := id h
  have hql : q.length = b.L.length := by rw [← hq, List.length_map]
  refine enter Try.mixed Try.func40 rfl (by kernel_rfl) ?_
  simp -dsimp [go_sem]
  obtain ⟨x, hx', hb0, hz0, hsz, n0⟩ := two_new w 26 26 #[.string b.name, i64 b.val, i64 b.next, .slice A b.L.length c] #[.string ⟨#[]⟩, i64 0, i64 0, .slice none 0 0]
  rw [← hx']
  generalize (w.alloc (.cells #[.string b.name, i64 b.val, i64 b.next, .slice A b.L.length c] 26)).alloc (.cells #[.string ⟨#[]⟩, i64 0, i64 0, .slice none 0 0] 26) = wa at *
  obtain ⟨M, hM⟩ : ∃ M, M = wa.heap.size := ⟨_, rfl⟩
  have hxM : x + 1 < M := by rw [hM]; exact hz0.lt
  have hwM : w.heap.size ≤ M := by rw [hM]; exact n0.size
  have ka : Nw wa (wa.alloc (.cells #[] 42)) := (Kp.refl _ _).alloc _
  have hmade := Ow.made wa 42 4 0 #[] rfl (by simp [maxLen])
  rw [hsz] at hmade
  refine app Smsg (xs := []) (n := 0) hmade (hr.nw (n0.nw ka)) (ys := mq q) (m := b.L.length) (by rw [mq_len, hql]) (mq_one hb) (by omega) (by omega) ?_
  intro A3 d3 w3 ho3 hk3 hAA
  rw [Nat.zero_add, List.nil_append] at ho3
  rw [Nat.zero_add]
  have hA3 : ∀ k, blk A3 k → M ≤ k := fun k hk => by
    rcases hAA with rfl | ⟨rfl, _⟩
    · have e : k = x + 2 := hk
      omega
    · have e : k = (wa.alloc (.cells #[] 42)).heap.size := hk
      have := ka.size
      omega
  have hfr : Kp (Fr M) wa w3 := (Nw.kp ka _).trans hk3 fun k _ (e : k = x + 2) => by show M ≤ k; omega
  have n3 : Nw w w3 := Nw.fr n0 hfr hwM
  have hb3 := hb0.kp hfr (by show ¬ M ≤ x; omega)
  have hz3 := hz0.kp hfr (by show ¬ M ≤ x + 1; omega)
  have c3' := hb3.cell 3
  have f3 := hb3.frozen 3
  obtain ⟨ln, hln⟩ : ∃ ln, ln = b.L.length := ⟨_, rfl⟩
  rw [← hln] at ho3 ⊢
  have ks : Kp (At x) w3 (w3.setCell ⟨x, 3, none⟩ (.slice A3 ln d3)) := (Kp.refl _ _).setCell_at _ _
  have hb4 : Blk (w3.setCell ⟨x, 3, none⟩ (.slice A3 ln d3)) x 26 #[.string b.name, i64 b.val, i64 b.next, .slice A3 ln d3] := by simpa using hb3.set 3 (.slice A3 ln d3)
  have hz4 := hz3.kp ks (by show ¬ x + 1 = x; omega)
  have n4 := n3.at_ ks fun k (e : k = x) => by omega
  have ho4 := ho3.kp ks (Off.of_blk fun k hk (e : k = x) => by have := hA3 k hk; omega)
  simp -dsimp [go_sem, c3', f3]
  generalize w3.setCell ⟨x, 3, none⟩ (.slice A3 ln d3) = w4 at *
  refine loop [10, 11, 12, 18, 19, 20, 21, 22, 23, 24, 25, 26, 27, 28, 29, 30, 31, 32, 33, 34, 35, 36, 37, 38, 39, 40, 41, 42, 43, 44, 45, 46, 47, 48, 49, 50, 51, 52, 53, 54, 55, 56, 57, 58] (by kernel_rfl)
    (fun f w' => Box2 (fun a vn w' => ∃ (i n : Nat), a = i64 i ∧ i ≤ q.length ∧ n = markN uids mode flags ((q.take i).map Prod.fst) ∧ vn = i64 n ∧
      Ow w' 42 4 A3 ln d3 (mq ((q.take i).map (mkP uids mode flags) ++ q.drop i)) ∧ Kp (blk A3) w4 w') (f 11) (f 10) w') (fun f _ => q.length - (intOf (f 11)).toNat)
    ⟨0, 0, rfl, by omega, rfl, rfl, by simpa using ho4, Kp.refl _ _⟩ ?_
  rintro f w' ⟨i, n, f11, hi, hn, f10, ho', hK⟩
  have hb' := hb4.kp hK fun h => by have := hA3 x h; omega
  have hz' := hz4.kp hK fun h => by have := hA3 (x + 1) h; omega
  have n5 : Nw w w' := n4.at_ hK fun k h => by have := hA3 k h; omega
  have x3 : w'.cell? ⟨x, 3, none⟩ = some (.slice A3 ln d3) := hb'.cell 3
  by_cases hlt : i < q.length
  · have hlt' : i < ln := by omega
    have hi1 : IntKind.i64.wrap ((i : Int) + 1) = ((i + 1 : Nat) : Int) := by rw [w64 (by omega) (by omega)]; omega
    obtain ⟨i1, hi1'⟩ : ∃ i1, i1 = i + 1 := ⟨_, rfl⟩
    rw [← hi1'] at hi1
    have hml : ((q.take i).map (mkP uids mode flags)).length = i := by simp; omega
    have htk : q.take i1 = q.take i ++ [q[i]] := by rw [hi1', List.take_succ_eq_append_getElem hlt]
    have hdr : q.drop i = q[i] :: q.drop i1 := by rw [hi1']; exact List.drop_eq_getElem_cons hlt
    rw [hdr] at ho'
    have hnl := markN_le uids mode flags ((q.take i).map Prod.fst)
    rw [← hn, List.length_map, List.length_take] at hnl
    generalize q[i] = p at *
    obtain ⟨m, mv⟩ := p
    have hil : i < ((q.take i).map (mkP uids mode flags) ++ (m, mv) :: q.drop i1).length := by rw [List.length_append, hml]; simp
    have hget : ((q.take i).map (mkP uids mode flags) ++ (m, mv) :: q.drop i1)[i]'hil = (m, mv) := mid_get _ _ _ i hml hil
    obtain ⟨g, o, rfl, e0, e1, e2, e3⟩ := msg_at ho'.rd hil
    obtain ⟨g', hg'⟩ := ho'.some (by omega)
    cases hg'
    rw [hget, Nat.zero_add] at e0 e1 e2 e3
    simp only at e0 e1 e2 e3
    simp -dsimp [go_sem, f11, hlt', x3, e0, e1, e2, e3]
    refine call (ramong_spec uids m.uid X xc _ (hx.nw n5) hxl) ?_
    rintro v4 w5 ⟨rfl, rfl⟩
    by_cases hu : m.uid ∈ uids
    · have hmk : mkP uids mode flags (m, mv) = ({ m with flags := applyF mode m.flags flags }, mv) := by simp [mkP, mk1, hu]
      simp -dsimp [go_sem, hu, f11, hlt', x3, e1]
      refine call (rapply_spec mode m.flags flags _) ?_
      rintro v5 w6 ⟨rfl, rfl⟩
      have g1 : w6.frozen? ⟨g, i * 4 + 1, none⟩ = false := ho'.frozen _
      have hgM : M ≤ g := hA3 g rfl
      have ks : Kp (At g) w6 (w6.setCell ⟨g, i * 4 + 1, none⟩ (i64 (applyF mode m.flags flags))) := (Kp.refl _ _).setCell_at _ _
      have hset := ow_set ho' (i * 4 + 1) (i64 (applyF mode m.flags flags))
      have hqs := mq_set_flags ((q.take i).map (mkP uids mode flags) ++ (m, mv) :: q.drop i1) i hil (applyF mode m.flags flags)
      rw [hqs, hget, mid_set _ _ _ _ i hml] at hset
      have hnew : (q.take i1).map (mkP uids mode flags) = (q.take i).map (mkP uids mode flags) ++ [({ m with flags := applyF mode m.flags flags }, mv)] := by rw [htk, List.map_append]; simp [hmk]
      rw [← hnew] at hset
      have hK6 := hK.trans ks fun k _ (e : k = g) => e
      have hn1 : IntKind.i64.wrap ((n : Int) + 1) = ((n + 1 : Nat) : Int) := by rw [w64 (by omega) (by omega)]; omega
      obtain ⟨n1, hn1'⟩ : ∃ n1, n1 = n + 1 := ⟨_, rfl⟩
      rw [← hn1'] at hn1
      by_cases hch : applyF mode m.flags flags = m.flags
      · have hch' : (applyF mode m.flags flags != m.flags) = false := by simp [hch]
        simp -dsimp [go_sem, hch', f11, f10, hi1, hlt', x3, e1, g1]
        refine ⟨⟨i1, n, rfl, by omega, ?_, rfl, hset, hK6⟩, by simp [intOf]; omega⟩
        rw [hn, htk]; simp [markN, hu, hch]
      · have hch' : (applyF mode m.flags flags != m.flags) = true := by simp [hch]
        simp -dsimp [go_sem, hch', f11, f10, hi1, hn1, hlt', x3, e1, g1]
        refine ⟨⟨i1, n1, rfl, by omega, ?_, rfl, hset, hK6⟩, by simp [intOf]; omega⟩
        rw [hn1', hn, htk]; simp [markN, hu, hch]
    · have hmk : mkP uids mode flags (m, mv) = (m, mv) := by simp [mkP, mk1, hu]
      simp -dsimp [go_sem, hu, f11, hi1]
      refine ⟨⟨i1, n, rfl, by omega, ?_, f10, ?_, hK⟩, by simp [intOf]; omega⟩
      · rw [hn, htk]; simp [markN, hu]
      · rw [htk]
        simpa [hmk] using ho'
  · obtain rfl : i = q.length := by omega
    have hge : ¬ q.length < ln := by omega
    rw [List.take_length, hq] at hn
    rw [List.take_length, List.drop_length, List.append_nil] at ho'
    have hfst : (q.map (mkP uids mode flags)).map Prod.fst = b.L.map (mk1 uids mode flags) := by rw [mkP_fst, hq]
    have hlL : (b.L.map (mk1 uids mode flags)).length = b.L.length := List.length_map _
    have c0 := hb'.cell 0
    have c1 := hb'.cell 1
    have c2 := hb'.cell 2
    have z0 := hz'.cell 0
    have z1 := hz'.cell 1
    have z2 := hz'.cell 2
    have z3 := hz'.cell 3
    have g0 := hz'.frozen 0
    have g1 := hz'.frozen 1
    have g2 := hz'.frozen 2
    have g3 := hz'.frozen 3
    simp -dsimp [go_sem, f11, f10, hge, x3, c0, c1, c2, z0, z1, z2, z3, g0, g1, g2, g3]
    have ks2 := kp_set4 w' (x + 1) (.string b.name) (i64 b.val) (i64 b.next) (.slice A3 ln d3)
    have n6 := n5.at_ ks2 fun k (e : k = x + 1) => by omega
    refine ⟨⟨_, by rw [← hn], ⟨A3, d3, q.map (mkP uids mode flags), by simp only; rw [hlL, ← hln], hfst, by simp only; rw [hlL, ← hln]; exact ho'.2.1, (ho'.kp ks2 (Off.of_blk fun k hk (e : k = x + 1) => by have := hA3 k hk; omega)).rd, fun a ha _ hk => ?_, fun p hp => ?_⟩⟩, n6⟩
    · have := hA3 a.block (by rw [ha]; rfl)
      have := hS _ hk
      omega
    · obtain ⟨p0, hp0, rfl⟩ := List.mem_map.1 hp
      have h3 : (mkP uids mode flags p0).1.body = p0.1.body := by simp only [mkP, mk1]; split <;> rfl
      rw [h3]
      exact (hb p0 hp0).nw n6
end Go.Proofs.Ytindfpaahlijeaa
