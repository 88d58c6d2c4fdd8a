/-
  box.Is walked. By the session itself.
-/
import Derived.Test.YtindfpaahlijeaaDoorBkA
namespace Go.Proofs.YtindfpaahlijeaaDoor
set_option linter.unusedSimpArgs false
set_option linter.unusedVariables false
set_option maxRecDepth 100000
set_option maxHeartbeats 1000000
open Go.Vc Go.RowKit

theorem bin_spec (n lo hi : Int) (w : World) : Cal Tryd.prog 34 #[i64 n, i64 lo, i64 hi] w fun v w' => v = .bool (okF n lo hi) ∧ w' = w := by
  refine enter Tryd.mixed Tryd.func34 rfl (by kernel_rfl) ?_
  by_cases h1 : lo ≤ n
  · simp -dsimp [go_sem, h1, okF]
  · simp -dsimp [go_sem, h1, okF]
theorem bis_spec (v : Value) (b : Bx) (S : Nat → Prop) (w : World) (h : RB w v b S) (hn : b.name.size ≤ 9223372036854775807) (hll : b.L.length ≤ 9223372036854775807) :
    Cal Tryd.prog 13 #[v] w fun v' w' => v' = .bool (isB b) ∧ Nw w w' := by
  obtain ⟨A, c, q, rfl, hq, hc, hr, ho, hb⟩ := h
  have hql : q.length = b.L.length := by rw [← hq, List.length_map]
  refine enter Tryd.mixed Tryd.func13 rfl (by kernel_rfl) ?_
  have k0 : Nw w (w.alloc (.cells #[.string b.name, i64 b.val, i64 b.next, .slice A b.L.length c] 24)) := (Kp.refl _ _).alloc _
  have hb0 : Blk (w.alloc (.cells #[.string b.name, i64 b.val, i64 b.next, .slice A b.L.length c] 24)) w.heap.size 24 #[.string b.name, i64 b.val, i64 b.next, .slice A b.L.length c] := Blk.new _ _ _
  obtain ⟨x, hx⟩ : ∃ x, x = w.heap.size := ⟨_, rfl⟩
  simp -dsimp [go_sem]
  rw [← hx] at hb0 ⊢
  generalize w.alloc (.cells #[.string b.name, i64 b.val, i64 b.next, .slice A b.L.length c] 24) = wa at *
  refine loop [2, 3, 5, 9, 10, 11, 12, 13, 14, 15, 16, 17, 18, 19, 20, 21, 22, 23, 24, 25, 26, 27, 28, 29, 30, 31, 32, 33, 34, 35, 36, 37, 38, 39, 40, 41, 42, 43, 44] (by kernel_rfl)
    (fun f w' => Box2 (fun a l w' => ∃ i : Nat, a = i64 i ∧ i ≤ b.L.length ∧ msgsOk 0 b.next (b.L.take i) = true ∧ l = i64 (lastU (b.L.take i)) ∧ Nw wa w') (f 9) (f 3) w') (fun f _ => b.L.length - (intOf (f 9)).toNat)
    ⟨0, rfl, by omega, rfl, rfl, Kp.refl _ _⟩ ?_
  rintro f w' ⟨i, f9, hi, hok, f3, hK⟩
  have c0 := (hb0.nw hK).cell 0
  have c1 := (hb0.nw hK).cell 1
  have c2 := (hb0.nw hK).cell 2
  have c3 := (hb0.nw hK).cell 3
  by_cases hlt : i < b.L.length
  · have hi1 : IntKind.i64.wrap ((i : Int) + 1) = ((i + 1 : Nat) : Int) := by rw [w64 (by omega) (by omega)]; omega
    obtain ⟨i1, hi1'⟩ : ∃ i1, i1 = i + 1 := ⟨_, rfl⟩
    have htk : b.L.take i1 = b.L.take i ++ [b.L[i]] := by rw [hi1']; exact List.take_succ_eq_append_getElem hlt
    rw [← hi1'] at hi1
    have hltq : i < q.length := by omega
    obtain ⟨g, o, rfl, e0, e1, e2, e3⟩ := msg_at ((hr.nw k0).nw hK) hltq
    have hqi : q[i].1 = b.L[i] := by simp only [← hq, List.getElem_map]
    have hbq := hb _ (List.getElem_mem hltq)
    rw [hqi] at e0 e1 e2 hbq
    have hnext : msgsOk 0 b.next (b.L.take i1) = msgsOk (lastU (b.L.take i)) b.next [b.L[i]] := by rw [htk, msgsOk_app, hok]; rfl
    have hfail : msgsOk (lastU (b.L.take i)) b.next [b.L[i]] = false → isB b = false := fun h => by
      have h2 : b.L = b.L.take i1 ++ b.L.drop i1 := (List.take_append_drop i1 b.L).symm
      have h3 : msgsOk 0 b.next b.L = false := by
        conv => lhs; rw [h2]
        rw [msgsOk_app, hnext, h]; rfl
      unfold isB; rw [h3]; simp
    have hlast : lastU (b.L.take i1) = b.L[i].uid := by unfold lastU; rw [htk, List.getLast?_concat]; rfl
    generalize lastU (b.L.take i) = last at *
    generalize b.L[i] = m at *
    generalize q[i].2 = mv at *
    obtain ⟨Bm, dm, rfl, hrm, hom, hdm⟩ := hbq
    have ka : Nw w' (w'.alloc (.cells #[i64 m.uid, i64 m.flags, i64 m.date, .slice Bm m.body.length dm] 41)) := (Kp.refl _ _).alloc _
    have hq4 : Blk (w'.alloc (.cells #[i64 m.uid, i64 m.flags, i64 m.date, .slice Bm m.body.length dm] 41)) w'.heap.size 41 #[i64 m.uid, i64 m.flags, i64 m.date, .slice Bm m.body.length dm] := Blk.new _ _ _
    have y0 := hq4.cell 0
    have y1 := hq4.cell 1
    have y2 := hq4.cell 2
    have y3 := hq4.cell 3
    have c2a := ((hb0.nw hK).nw ka).cell 2
    have hKa := hK.nw ka
    have hone : msgsOk last b.next [m] = (decide (last < m.uid) && decide (m.uid < b.next) && okF m.flags 0 31 && okF m.date 0 1073741824 && decide (m.body.length ≤ 1200)) := by simp [msgsOk]
    rw [hone] at hnext hfail
    obtain ⟨z, hz⟩ : ∃ z, z = w'.heap.size := ⟨_, rfl⟩
    rw [← hz] at hq4 y0 y1 y2 y3
    by_cases g1 : m.uid ≤ last
    · have hf := hfail (by simp; omega)
      simp -dsimp [go_sem, f9, f3, hlt, e0, e1, e2, e3, y0, g1, hf]
      exact k0.nw hKa
    · by_cases g2 : b.next ≤ m.uid
      · have hf := hfail (by simp; omega)
        simp -dsimp [go_sem, f9, f3, hlt, e0, e1, e2, e3, y0, g1, g2, c2, c2a, hf]
        exact k0.nw hKa
      · simp -dsimp [go_sem, f9, f3, hlt, e0, e1, e2, e3, y0, y1, g1, g2, c2, c2a]
        rw [← hz]
        generalize w'.alloc (.cells #[i64 m.uid, i64 m.flags, i64 m.date, .slice Bm m.body.length dm] 41) = w4 at *
        refine call (bin_spec m.flags 0 31 w4) ?_
        rintro v5 w5 ⟨rfl, rfl⟩
        cases hfl : okF m.flags 0 31 with
        | false =>
          have hf := hfail (by rw [hfl]; simp)
          simp -dsimp [go_sem, hf]
          exact k0.nw hKa
        | true =>
          simp -dsimp [go_sem, y2]
          refine call (bin_spec m.date 0 1073741824 _) ?_
          rintro v6 w6 ⟨rfl, rfl⟩
          cases hdl : okF m.date 0 1073741824 with
          | false =>
            have hf := hfail (by rw [hdl]; simp)
            simp -dsimp [go_sem, hf]
            exact k0.nw hKa
          | true =>
            by_cases g5 : 1200 < m.body.length
            · have g5' : (1200 : Int) < (m.body.length : Int) := by omega
              have hf := hfail (by simp; omega)
              simp -dsimp [go_sem, y3, g5, g5', hf]
              exact k0.nw hKa
            · have g5' : ¬ (1200 : Int) < (m.body.length : Int) := by omega
              simp -dsimp [go_sem, y0, y3, g5, g5', f9, hi1]
              refine ⟨⟨i1, rfl, by omega, ?_, by rw [hlast], hKa⟩, by simp [intOf]; omega⟩
              rw [hnext, hfl, hdl]; simp; omega
  · have hii : b.L.take i = b.L := List.take_of_length_le (by omega)
    rw [hii] at hok
    simp -dsimp [go_sem, f9, hlt, c0]
    refine call (bname_spec b.name _ hn) ?_
    rintro v5 w5 ⟨rfl, hk5⟩
    have c15 := hk5.cell_some c1 fun h => h
    have c25 := hk5.cell_some c2 fun h => h
    have c35 := hk5.cell_some c3 fun h => h
    have k5 := (k0.nw hK).nw hk5
    cases hnm : nameOk b.name with
    | false =>
      simp -dsimp [go_sem, isB, hnm]
      exact k5
    | true =>
      simp -dsimp [go_sem, c15]
      refine call (bin_spec b.val 1 1048576 _) ?_
      rintro v6 w6 ⟨rfl, rfl⟩
      cases hvl : okF b.val 1 1048576 with
      | false =>
        simp -dsimp [go_sem, isB, hvl]
        exact k5
      | true =>
        simp -dsimp [go_sem, c25]
        refine call (bin_spec b.next 1 1048576 _) ?_
        rintro v7 w7 ⟨rfl, rfl⟩
        cases hnx : okF b.next 1 1048576 with
        | false =>
          simp -dsimp [go_sem, isB, hnx]
          exact k5
        | true =>
          by_cases h24 : b.L.length ≤ 24
          · have h24' : (b.L.length : Int) ≤ 24 := by omega
            simp -dsimp [go_sem, c35, isB, hnm, hvl, hnx, hok, h24, h24']
            exact k5
          · have h24' : ¬ (b.L.length : Int) ≤ 24 := by omega
            simp -dsimp [go_sem, c35, isB, hnm, hvl, hnx, hok, h24, h24']
            exact k5
end Go.Proofs.YtindfpaahlijeaaDoor
