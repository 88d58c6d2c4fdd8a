/-
  Changes handed in, weighed; StoreErrs walked. By the session itself. Rows of names handed in. By the session itself. StoreUsers walked. By the session itself.
-/
import Derived.Test.YtipdndmfngpbfaaGreatDoorQ35
namespace Go.Proofs.YtipdndmfngpbfaaGreatDoor
set_option linter.unusedSimpArgs false
set_option linter.unusedVariables false
set_option maxRecDepth 100000
set_option maxHeartbeats 2000000
open Go.Vc Go.RowKit

/-- How heavy all are, up to so many. -/
def heavyL (q : List CQ) (i : Nat) : Nat := ((q.take i).map fun p => heavyN p.1).sum
theorem heavyN_le {w : World} {p : CQ} (h : ChgG w p) : heavyN p.1 ≤ 844424930131969 := by
  obtain ⟨h1, h2, h3, h4, h5, h6, _⟩ := h.sz.1
  unfold heavyN
  omega
theorem heavyL_succ {q : List CQ} {i : Nat} (hi : i < q.length) : heavyL q (i + 1) = heavyL q i + heavyN q[i].1 := by
  unfold heavyL
  rw [List.take_succ_eq_append_getElem hi, List.map_append, List.sum_append]
  simp
theorem heavyL_le {w : World} {q : List CQ} (h : ∀ p ∈ q, ChgG w p) : ∀ i, i ≤ q.length → heavyL q i ≤ i * 844424930131969
  | 0, _ => by simp [heavyL]
  | i + 1, hi => by
    rw [heavyL_succ (by omega), Nat.add_mul]
    have := heavyL_le h i (by omega)
    have := heavyN_le (h q[i] (List.getElem_mem (by omega)))
    omega
theorem heavyL_one {q : List CQ} : ∀ {n i : Nat}, i < n → n ≤ q.length → ∀ (hi : i < q.length), heavyN q[i].1 ≤ heavyL q n
  | 0, i, h, _, _ => by omega
  | n + 1, i, h, hn, hi => by
    rw [heavyL_succ (by omega)]
    by_cases e : i = n
    · subst e; omega
    · have := heavyL_one (q := q) (show i < n by omega) (by omega) hi
      omega
theorem rd_old {w : World} {A : Option Addr} {xs : List Value} (h : Rd w A xs) (hx : xs ≠ []) : ∀ a, A = some a → a.block < w.heap.size := fun a ha => by
  have := h.ofl (S := fun k => w.heap.size ≤ k) (fun i hi => hi) a ha hx
  omega
theorem ccells_ne {q : List CQ} {i : Nat} (hi : i < q.length) : q.flatMap ccells ≠ [] := fun e => by
  have := List.flatMap_eq_nil_iff.1 e q[i] (List.getElem_mem hi)
  cases this
/-- The cells of one of the changes. -/
theorem errs_law (q : List CQ) (A : Option Addr) (ca : Nat) (w : World) (hr : Rd w A (q.flatMap ccells)) (hc : q.length ≤ ca) (hG : ∀ p ∈ q, ChgG w p) (hql : q.length ≤ 140737488355328) :
    Cal Tryz.prog 8 #[.slice A q.length ca] w fun v w' => v = .bool true ∧ Nw w w' := by
  refine enter Tryz.mixed Tryz.func8 rfl (by kernel_rfl) ?_
  simp -dsimp [go_sem]
  refine loop [3, 4, 10, 11, 12, 13, 14, 15, 16, 17, 18, 19, 20, 21, 22, 23, 24, 25, 26] (by kernel_rfl)
    (fun f w' => Box2 (fun a b w' => ∃ i : Nat, a = i64 i ∧ i ≤ q.length ∧ i ≤ 60 ∧ b = i64 (heavyL q i) ∧ Nw w w') (f 4) (f 3) w') (fun f _ => q.length - (intOf (f 4)).toNat)
    ⟨0, rfl, Nat.zero_le _, Nat.zero_le _, rfl, Kp.refl _ _⟩ ?_
  rintro f w1 ⟨i, f4, hi, hi60, f3, k1⟩
  by_cases hlt : i < q.length ∧ i < 60
  · obtain ⟨hlt, hlt60⟩ := hlt
    have hlt60' : (i : Int) < 60 := by omega
    have hi1 : IntKind.i64.wrap ((i : Int) + 1) = ((i + 1 : Nat) : Int) := by rw [w64 (by omega) (by omega)]; omega
    have hsum : IntKind.i64.wrap ((heavyL q i : Int) + (heavyN q[i].1 : Int)) = ((heavyL q (i + 1) : Nat) : Int) := by
      have h1 := heavyL_le hG i hi
      have h2 := heavyN_le (hG q[i] (List.getElem_mem hlt))
      rw [heavyL_succ hlt, w64 (by omega) (by omega)]; omega
    obtain ⟨i1, hi1'⟩ : ∃ i1, i1 = i + 1 := ⟨_, rfl⟩
    rw [← hi1'] at hi1 hsum
    have hr1 := hr.nw k1
    obtain ⟨gA, oA, rfl, hcell⟩ := chg_at hr1 hlt
    have e0 := hcell 0 _ rfl
    have e1 := hcell 1 _ rfl
    have e2 := hcell 2 _ rfl
    have e3 := hcell 3 _ rfl
    have e4 := hcell 4 _ rfl
    have e5 := hcell 5 _ rfl
    have e6 := hcell 6 _ rfl
    have e7 := hcell 7 _ rfl
    have e8 := hcell 8 _ rfl
    have e9 := hcell 9 _ rfl
    rw [Nat.add_zero] at e0
    have hg := (hG q[i] (List.getElem_mem hlt)).sz
    generalize q[i] = X at *
    simp -dsimp [go_sem, f4, f3, hlt, hlt60, hlt60', e0, e1, e2, e3, e4, e5, e6, e7, e8, e9]
    refine call (heavy14_spec hg.2 hg.1 w1) ?_
    rintro v w2 ⟨rfl, k2⟩
    simp -dsimp [go_sem, f4, hi1, hsum]
    exact ⟨⟨i1, rfl, by omega, by omega, rfl, k1.nw k2⟩, by simp [intOf]; omega⟩
  · by_cases h1 : i < q.length
    · have h60 : i = 60 := by omega
      have h60' : ¬ (i : Int) < 60 := by omega
      have h60n : ¬ i < 60 := by omega
      simp -dsimp [go_sem, f4, h1, h60', h60n]
      refine call (begin_spec w1) ?_
      rintro v w2 ⟨p, g, x, s, t, l, qq, l2, F2, G2, V2, rfl, hp, hS, _⟩
      have n2 := k1.nw hS.on
      by_cases hh : 12000 < heavyL q i
      · have hh' : (12000 : Int) < (heavyL q i : Int) := by omega
        simp -dsimp [go_sem, f3, hh, hh']
        exact n2
      have hh' : ¬ (12000 : Int) < (heavyL q i : Int) := by omega
      simp -dsimp [go_sem, f3, hh, hh']
      refine loop [2, 6, 7, 8, 9, 32, 33, 34, 35, 36, 37, 38, 39, 40, 41, 42, 43, 44, 45, 46, 47, 48, 49, 50, 51, 52, 53, 54, 55, 56, 57, 58, 59, 60, 61, 62, 63, 64, 65, 66, 67, 68, 69, 70, 71] (by kernel_rfl)
        (fun f w' => Box1 (fun a w' => ∃ (j : Nat) (S : Sto), a = i64 j ∧ j ≤ i ∧ Sf S (600000 * j) (2 * j) j ∧ Blk w' p 48 #[.pointer (some ⟨g, 0, none⟩), .pointer (some ⟨x, 0, none⟩), .pointer (some ⟨s, 0, none⟩), .pointer (some ⟨qq, 0, none⟩)] ∧ Sm w1 w' s g l t S (fun k => k = qq ∨ V2 k) (fun k => k = p)) (f 6) w') (fun f _ => i - (intOf (f 6)).toNat)
        ⟨0, Sto.fresh, rfl, Nat.zero_le _, Sf.fresh, hp, hS⟩ ?_
      clear hp hS n2
      rintro f' w3 ⟨j, S, f6, hj, hSf, hp, hS⟩
      by_cases hltj : j < i
      · have hjq : j < q.length := by omega
        have hj60 : j < 60 := by omega
        have hj60' : (j : Int) < 60 := by omega
        have hj1 : IntKind.i64.wrap ((j : Int) + 1) = ((j + 1 : Nat) : Int) := by rw [w64 (by omega) (by omega)]; omega
        obtain ⟨j1, hj1'⟩ : ∃ j1, j1 = j + 1 := ⟨_, rfl⟩
        rw [← hj1'] at hj1
        have hg := hG q[j] (List.getElem_mem hjq)
        have hone := heavyL_one hltj hi hjq
        have p2 := hp.cell 2
        simp -dsimp [go_sem, f6, hjq, hj60, hj60', p2]
        refine call (hS.state hSf.tok) ?_
        rintro v w4 ⟨rfl, k4⟩
        have hS4 := hS.nw k4
        have hp4 := hp.nw k4
        have p24 := hp4.cell 2
        have hr4 := hr.nw (k1.nw hS4.on)
        have hg4 := hg.nw (k1.nw hS4.on)
        obtain ⟨gA, oA, rfl, hcell⟩ := chg_at hr4 hjq
        have e0 := hcell 0 _ rfl
        have e1 := hcell 1 _ rfl
        have e2 := hcell 2 _ rfl
        have e3 := hcell 3 _ rfl
        have e4 := hcell 4 _ rfl
        have e5 := hcell 5 _ rfl
        have e6 := hcell 6 _ rfl
        have e7 := hcell 7 _ rfl
        have e8 := hcell 8 _ rfl
        have e9 := hcell 9 _ rfl
        rw [Nat.add_zero] at e0
        have hgz := hg4.sz
        have hrc := hg4.rc
        generalize q[j] = X at *
        have kd : Nw w4 w4.drew := (Kp.refl _ _).drew
        have hw14 := hS4.on.size
        have hpE : ¬ Fu w1 (fun k => k = qq ∨ V2 k) (fun k => k = p) p := fun e => e.2.2 rfl
        have hAE : ¬ Fu w1 (fun k => k = qq ∨ V2 k) (fun k => k = p) gA := fun e => by
          have e := e.1
          have := rd_old hr (ccells_ne hjq) _ rfl
          have h2 := k1.size
          simp at this; omega
        simp -dsimp [go_sem]
        refine draw (.take 0 (.take 1 (.take 2 (.take 3 (.take 4 (.take 5 (.take 6 (.take 7 (.alt 8 (.take 9 (.take 10 (.take 11 (.take 12 (.take 13 .done))))) .stop))))))))) (by kernel_rfl) (fun wz => Kp (Fu w1 (fun k => k = qq ∨ V2 k) (fun k => k = p)) w4 wz) (Nw.kp kd _) ?_
        simp -dsimp [go_sem, f6, hjq, p24, e0, e1, e2, e3, e4, e5, e6, e7, e8, e9]
        have hux : X.1.uids.length ≤ 1000000000 := by unfold heavyN at hone; omega
        refine ⟨fun wz hz => by simp [hz.cell_some p24 hpE], fun wz hz => by simp [hz.cell_some e0 hAE, hz.cell_some e1 hAE, hz.cell_some e2 hAE, hz.cell_some e3 hAE, hz.cell_some e4 hAE, hz.cell_some e5 hAE, hz.cell_some e6 hAE, hz.cell_some e7 hAE, hz.cell_some e8 hAE, hz.cell_some e9 hAE], ?_⟩
        refine call ((hS4.nw kd).do hSf.tok (hg4.nw kd).rc hgz.1 hux) ?_
        have hstep := hSf.step X.1 (by omega) (by omega) (by omega)
        have hnn := plan_err S.T X.1
        generalize doA S X.1 = R at *
        rintro v w5 ⟨rfl, hS5, k5⟩
        have k45 := (Nw.kp kd _).trans k5 fun _ _ h => h
        have hp5 := hp4.kp k45 hpE
        have p25 := hp5.cell 2
        refine ⟨k45, ?_⟩
        rcases hstep with ⟨_, rfl⟩ | ⟨_, hne, rfl⟩ | ⟨_, he0, S', rfl, hT', hSf'⟩
        · simp -dsimp [go_sem, p25]
          refine call (hS5.state hSf.tok) ?_
          rintro v w6 ⟨rfl, k6⟩
          simp -dsimp [go_sem, f6, hj1]
          exact ⟨⟨j1, S, rfl, by omega, hSf.mono (by omega) (by omega) (by omega), hp5.nw k6, hS5.nw k6⟩, by simp [intOf]; omega⟩
        · generalize (plan S.T X.1).1 = e at *
          have hne' : (e != 0) = true := by simpa using hne
          have hn9 : (e == 9) = false := by simpa using hnn
          simp -dsimp [go_sem, p25, hne']
          refine call (hS5.state hSf.tok) ?_
          rintro v w6 ⟨rfl, k6⟩
          simp -dsimp [go_sem, f6, hj1, hn9]
          exact ⟨⟨j1, S, rfl, by omega, hSf.mono (by omega) (by omega) (by omega), hp5.nw k6, hS5.nw k6⟩, by simp [intOf]; omega⟩
        · simp -dsimp [go_sem, f6, hj1]
          exact ⟨⟨j1, S', rfl, by omega, by rw [hj1']; exact hSf'.mono (by omega) (by omega) (by omega), hp5, hS5⟩, by simp [intOf]; omega⟩
      · obtain rfl : j = i := by omega
        by_cases e : j < q.length
        · have e60 : ¬ j < 60 := by omega
          have e60' : ¬ (j : Int) < 60 := by omega
          simp -dsimp [go_sem, f6, e, e60, e60']
          refine call (stknown_spec w3) ?_
          rintro v w4 ⟨rfl, k4⟩
          simp -dsimp [go_sem]
          exact (k1.nw hS.on).nw k4
        · simp -dsimp [go_sem, f6, e]
          refine call (stknown_spec w3) ?_
          rintro v w4 ⟨rfl, k4⟩
          simp -dsimp [go_sem]
          exact (k1.nw hS.on).nw k4
    · simp -dsimp [go_sem, f4, h1]
      refine call (begin_spec w1) ?_
      rintro v w2 ⟨p, g, x, s, t, l, qq, l2, F2, G2, V2, rfl, hp, hS, _⟩
      have n2 := k1.nw hS.on
      by_cases hh : 12000 < heavyL q i
      · have hh' : (12000 : Int) < (heavyL q i : Int) := by omega
        simp -dsimp [go_sem, f3, hh, hh']
        exact n2
      have hh' : ¬ (12000 : Int) < (heavyL q i : Int) := by omega
      simp -dsimp [go_sem, f3, hh, hh']
      refine loop [2, 6, 7, 8, 9, 32, 33, 34, 35, 36, 37, 38, 39, 40, 41, 42, 43, 44, 45, 46, 47, 48, 49, 50, 51, 52, 53, 54, 55, 56, 57, 58, 59, 60, 61, 62, 63, 64, 65, 66, 67, 68, 69, 70, 71] (by kernel_rfl)
        (fun f w' => Box1 (fun a w' => ∃ (j : Nat) (S : Sto), a = i64 j ∧ j ≤ i ∧ Sf S (600000 * j) (2 * j) j ∧ Blk w' p 48 #[.pointer (some ⟨g, 0, none⟩), .pointer (some ⟨x, 0, none⟩), .pointer (some ⟨s, 0, none⟩), .pointer (some ⟨qq, 0, none⟩)] ∧ Sm w1 w' s g l t S (fun k => k = qq ∨ V2 k) (fun k => k = p)) (f 6) w') (fun f _ => i - (intOf (f 6)).toNat)
        ⟨0, Sto.fresh, rfl, Nat.zero_le _, Sf.fresh, hp, hS⟩ ?_
      clear hp hS n2
      rintro f' w3 ⟨j, S, f6, hj, hSf, hp, hS⟩
      by_cases hltj : j < i
      · have hjq : j < q.length := by omega
        have hj60 : j < 60 := by omega
        have hj60' : (j : Int) < 60 := by omega
        have hj1 : IntKind.i64.wrap ((j : Int) + 1) = ((j + 1 : Nat) : Int) := by rw [w64 (by omega) (by omega)]; omega
        obtain ⟨j1, hj1'⟩ : ∃ j1, j1 = j + 1 := ⟨_, rfl⟩
        rw [← hj1'] at hj1
        have hg := hG q[j] (List.getElem_mem hjq)
        have hone := heavyL_one hltj hi hjq
        have p2 := hp.cell 2
        simp -dsimp [go_sem, f6, hjq, hj60, hj60', p2]
        refine call (hS.state hSf.tok) ?_
        rintro v w4 ⟨rfl, k4⟩
        have hS4 := hS.nw k4
        have hp4 := hp.nw k4
        have p24 := hp4.cell 2
        have hr4 := hr.nw (k1.nw hS4.on)
        have hg4 := hg.nw (k1.nw hS4.on)
        obtain ⟨gA, oA, rfl, hcell⟩ := chg_at hr4 hjq
        have e0 := hcell 0 _ rfl
        have e1 := hcell 1 _ rfl
        have e2 := hcell 2 _ rfl
        have e3 := hcell 3 _ rfl
        have e4 := hcell 4 _ rfl
        have e5 := hcell 5 _ rfl
        have e6 := hcell 6 _ rfl
        have e7 := hcell 7 _ rfl
        have e8 := hcell 8 _ rfl
        have e9 := hcell 9 _ rfl
        rw [Nat.add_zero] at e0
        have hgz := hg4.sz
        have hrc := hg4.rc
        generalize q[j] = X at *
        have kd : Nw w4 w4.drew := (Kp.refl _ _).drew
        have hw14 := hS4.on.size
        have hpE : ¬ Fu w1 (fun k => k = qq ∨ V2 k) (fun k => k = p) p := fun e => e.2.2 rfl
        have hAE : ¬ Fu w1 (fun k => k = qq ∨ V2 k) (fun k => k = p) gA := fun e => by
          have e := e.1
          have := rd_old hr (ccells_ne hjq) _ rfl
          have h2 := k1.size
          simp at this; omega
        simp -dsimp [go_sem]
        refine draw (.take 0 (.take 1 (.take 2 (.take 3 (.take 4 (.take 5 (.take 6 (.take 7 (.alt 8 (.take 9 (.take 10 (.take 11 (.take 12 (.take 13 .done))))) .stop))))))))) (by kernel_rfl) (fun wz => Kp (Fu w1 (fun k => k = qq ∨ V2 k) (fun k => k = p)) w4 wz) (Nw.kp kd _) ?_
        simp -dsimp [go_sem, f6, hjq, p24, e0, e1, e2, e3, e4, e5, e6, e7, e8, e9]
        have hux : X.1.uids.length ≤ 1000000000 := by unfold heavyN at hone; omega
        refine ⟨fun wz hz => by simp [hz.cell_some p24 hpE], fun wz hz => by simp [hz.cell_some e0 hAE, hz.cell_some e1 hAE, hz.cell_some e2 hAE, hz.cell_some e3 hAE, hz.cell_some e4 hAE, hz.cell_some e5 hAE, hz.cell_some e6 hAE, hz.cell_some e7 hAE, hz.cell_some e8 hAE, hz.cell_some e9 hAE], ?_⟩
        refine call ((hS4.nw kd).do hSf.tok (hg4.nw kd).rc hgz.1 hux) ?_
        have hstep := hSf.step X.1 (by omega) (by omega) (by omega)
        have hnn := plan_err S.T X.1
        generalize doA S X.1 = R at *
        rintro v w5 ⟨rfl, hS5, k5⟩
        have k45 := (Nw.kp kd _).trans k5 fun _ _ h => h
        have hp5 := hp4.kp k45 hpE
        have p25 := hp5.cell 2
        refine ⟨k45, ?_⟩
        rcases hstep with ⟨_, rfl⟩ | ⟨_, hne, rfl⟩ | ⟨_, he0, S', rfl, hT', hSf'⟩
        · simp -dsimp [go_sem, p25]
          refine call (hS5.state hSf.tok) ?_
          rintro v w6 ⟨rfl, k6⟩
          simp -dsimp [go_sem, f6, hj1]
          exact ⟨⟨j1, S, rfl, by omega, hSf.mono (by omega) (by omega) (by omega), hp5.nw k6, hS5.nw k6⟩, by simp [intOf]; omega⟩
        · generalize (plan S.T X.1).1 = e at *
          have hne' : (e != 0) = true := by simpa using hne
          have hn9 : (e == 9) = false := by simpa using hnn
          simp -dsimp [go_sem, p25, hne']
          refine call (hS5.state hSf.tok) ?_
          rintro v w6 ⟨rfl, k6⟩
          simp -dsimp [go_sem, f6, hj1, hn9]
          exact ⟨⟨j1, S, rfl, by omega, hSf.mono (by omega) (by omega) (by omega), hp5.nw k6, hS5.nw k6⟩, by simp [intOf]; omega⟩
        · simp -dsimp [go_sem, f6, hj1]
          exact ⟨⟨j1, S', rfl, by omega, by rw [hj1']; exact hSf'.mono (by omega) (by omega) (by omega), hp5, hS5⟩, by simp [intOf]; omega⟩
      · obtain rfl : j = i := by omega
        by_cases e : j < q.length
        · have e60 : ¬ j < 60 := by omega
          have e60' : ¬ (j : Int) < 60 := by omega
          simp -dsimp [go_sem, f6, e, e60, e60']
          refine call (stknown_spec w3) ?_
          rintro v w4 ⟨rfl, k4⟩
          simp -dsimp [go_sem]
          exact (k1.nw hS.on).nw k4
        · simp -dsimp [go_sem, f6, e]
          refine call (stknown_spec w3) ?_
          rintro v w4 ⟨rfl, k4⟩
          simp -dsimp [go_sem]
          exact (k1.nw hS.on).nw k4
end Go.Proofs.YtipdndmfngpbfaaGreatDoor

namespace Go.Proofs.YtipdndmfngpbfaaGreatDoor
set_option linter.unusedSimpArgs false
set_option linter.unusedVariables false
set_option maxRecDepth 100000
open Go.Vc Go.Deep Go.ChangeShapes Go.WideShapes Go.ChangeAt Go.RowKit Go.ChangeMaps
section
variable {H : Type} {enc : TypeId × Value → H} {P : Program} {W : World} {base : Nat} {spare : Nat → Bool} {held : Bool}
theorem arg_strs {r : Reach} {tys : List TypeId} {ds : List (DataW H)} {j : Nat} {t e : TypeId} {v : Value} {d : DataW H} {ps : List MemPlace} (hz : (DataW.weightsEach P tys ds).all (· ≤ reachBytes) = true) (hts : tys[j]? = some t) (hds : ds[j]? = some d)
    (ht : P.underlying t = some (.slice e)) (hs : P.underlying e = some .string) (ct : P.cellsOf e = 1) (hval : ∃ b0, Value.okWide P W r b0 t v) (h : DataW.Trod enc P W base spare held t v d ps) :
    ∃ A c, ∃ q : List Nm, v = .slice A q.length c ∧ Rd W A (q.map fun s => str s) ∧ q.length ≤ c ∧ c ≤ maxLen ∧ ∀ s ∈ q, s.length ≤ 140737488355328 := by
  obtain ⟨_, hval⟩ := hval
  obtain ⟨A, n, c, rfl⟩ := okWide_slice ht hval
  obtain ⟨fuel, hf⟩ := h
  obtain ⟨A', c', xs, e, h1, h2, h3, h4⟩ := trod_structs_z (fun s : Nm => [str s]) (fun s => s.length ≤ 140737488355328) ht ct (by omega) (sz_arg hz hts hds) (fun n cs y hy ht => by
    obtain ⟨s, e, hl⟩ := sz_strT hs hy ht
    unfold reachBytes at hl
    exact ⟨s, e, rfl, by omega⟩) hf
  simp only [Value.cells, List.cons.injEq, and_true] at e
  refine ⟨A', c', xs, e, ?_, h2, h3, h4⟩
  have e2 : (xs.map fun s => str s) = xs.flatMap fun s : Nm => [str s] := by
    clear h1 h2 h3 h4 e
    induction xs with
    | nil => rfl
    | cons a l ih => simp [ih]
  rw [e2]
  exact h1
end
end Go.Proofs.YtipdndmfngpbfaaGreatDoor

namespace Go.Proofs.YtipdndmfngpbfaaGreatDoor
set_option linter.unusedSimpArgs false
set_option linter.unusedVariables false
set_option maxRecDepth 100000
set_option maxHeartbeats 2000000
open Go.Vc Go.RowKit

theorem hmt2 : Tryz.prog.underlying 61 = some (.map 9 4) := by kernel_rfl
/-- The table of the names that are had. -/
def hv (T : Stt) : Nm → Option Value := fun a => if (tLook T.us a).isSome then some (.bool true) else none
theorem hv_some (T : Stt) (a : Nm) : (hv T a).isSome = true ↔ a ∈ keysA T.us := by rw [← tLook_keys]; unfold hv; split <;> simp_all
theorem hv_get (T : Stt) (a : Nm) : (hv T a).getD (.bool false) = .bool (tLook T.us a).isSome := by unfold hv; split <;> simp_all
theorem hv_put (T : Stt) (n : Int) (a : Nm) (u : Usr) : put (hv T) a (.bool true) = hv ⟨n, tLay T.us a u⟩ := by
  funext b
  unfold hv put
  simp only [tLook_lay]
  split <;> simp_all
/-- Another user. -/
abbrev addC (nm : Nm) : Chg := ⟨1, nm, [112], [], [], [], 0, 0, 0, []⟩
theorem addC_ok {nm : Nm} (h : nmOk nm = true) : chgOk (addC nm) = true := by
  have e : passOk [112] = true := by decide
  simp [chgOk, namedOk, okF, toK, manyK, uidsOk, riseU, h, e]
theorem newU_get (T : Stt) (n : Int) (a p : Nm) (b : Bx) : getB ⟨n, tLay T.us a ⟨p, [(inboxN, b)]⟩⟩ a inboxN = some b := by
  unfold getB
  simp [tLook_lay, tLook]
theorem users_law (q : List Nm) (A : Option Addr) (ca : Nat) (w : World) (hr : Rd w A (q.map fun s => str s)) (hc : q.length ≤ ca) (hG : ∀ s ∈ q, s.length ≤ 140737488355328) (hql : q.length ≤ 140737488355328) :
    Cal Tryz.prog 7 #[.slice A q.length ca] w fun v w' => v = .bool true ∧ Nw w w' := by
  refine enter Tryz.mixed Tryz.func7 rfl (by kernel_rfl) ?_
  by_cases h12 : 12 < q.length
  · have h12' : (12 : Int) < (q.length : Int) := by omega
    simp -dsimp [go_sem, h12, h12']
    exact Kp.refl _ _
  have h12' : ¬ (12 : Int) < (q.length : Int) := by omega
  simp -dsimp [go_sem, h12, h12']
  refine call (begin_spec w) ?_
  rintro v w1 ⟨p, g, x, s, t, l, qq, l2, F2, G2, V2, rfl, hp, hS, _⟩
  have n1 := hS.on
  have hmk := fun (t : TypeId) (w : World) => run_makeMap (P := Tryz.prog) t w
  simp -dsimp [go_sem, hmk]
  have hm0 : Mp (w1.alloc (.map #[] 0)) w1.heap.size (fun l : Nm => str l) (fun _ => none) := Mp.new w1
  have ka : Nw w1 (w1.alloc (.map #[] 0)) := (Kp.refl _ _).alloc _
  have ks : (w1.alloc (.map #[] 0)).heap.size = w1.heap.size + 1 := by simp
  have hpl := hp.lt
  have hS := hS.more (U' := fun k => k = w1.heap.size) (E' := fun k => k = p) ka (fun i (e : i = w1.heap.size) => .inr ⟨by omega, by omega⟩) (fun i hi => .inl hi) (fun i (e : i = w1.heap.size) (e' : i = p) => by omega)
  have hp := hp.nw ka
  obtain ⟨r, hrr⟩ : ∃ r, r = w1.heap.size := ⟨_, rfl⟩
  rw [← hrr] at hm0 hS hpl ⊢
  clear ks
  generalize w1.alloc (.map #[] 0) = wa at *
  refine loop [2, 5, 6, 7, 8, 9, 10, 18, 19, 20, 21, 22, 23, 24, 25, 26, 27, 28, 29, 30, 31, 32, 33, 34, 35, 36, 37, 38, 39, 40, 41, 42, 43, 44, 45, 46, 47, 48, 49, 50, 51, 52, 53, 54, 55, 56, 57, 58, 59, 60, 61, 62, 63, 64, 65, 66, 67, 68, 69, 70, 71, 72, 73, 74, 75, 76, 77, 78, 79, 80, 81, 82, 83, 84, 85, 86, 87, 88, 89, 90, 91, 92, 93, 94, 95] (by kernel_rfl)
    (fun f w' => Box1 (fun a w' => ∃ (j : Nat) (S : Sto), a = i64 j ∧ j ≤ q.length ∧ Sf S (600000 * j) (2 * j) j ∧ S.T.next = (S.T.us.length : Int) + 1 ∧ Blk w' p 48 #[.pointer (some ⟨g, 0, none⟩), .pointer (some ⟨x, 0, none⟩), .pointer (some ⟨s, 0, none⟩), .pointer (some ⟨qq, 0, none⟩)] ∧ Mp w' r (fun l : Nm => str l) (hv S.T) ∧ Sm w w' s g l t S (fun k => k = r) (fun k => k = p)) (f 5) w') (fun f _ => q.length - (intOf (f 5)).toNat)
    ⟨0, Sto.fresh, rfl, Nat.zero_le _, Sf.fresh, rfl, hp, hm0, hS⟩ ?_
  clear hp hS hm0
  rintro f w3 ⟨j, S, f5, hj, hSf, hnx, hp, hM, hS⟩
  have hwr : w.heap.size ≤ r := by have := n1.size; omega
  have ok := hSf.tok
  have ok4 := ok.len
  have hlen := fun (ty : TypeId) w1 (h1 : Nw w3 w1) => len_mp (ty := ty) KL hmt2 (hM.kp h1 fun h => h) (keys_nodup ok.srt) (hv_some S.T)
  rw [keysA_len] at hlen
  have p2 := hp.cell 2
  by_cases hlt : j < q.length
  · have hj1 : IntKind.i64.wrap ((j : Int) + 1) = ((j + 1 : Nat) : Int) := by rw [w64 (by omega) (by omega)]; omega
    obtain ⟨j1, hj1'⟩ : ∃ j1, j1 = j + 1 := ⟨_, rfl⟩
    rw [← hj1'] at hj1
    have hr3 := hr.nw hS.on
    have hAr : ∀ a, A = some a → a.block < w.heap.size := rd_old hr (by intro e; rw [List.map_eq_nil_iff] at e; rw [e] at hlt; simp at hlt)
    obtain ⟨gA, oA, rfl, cA⟩ := hr3 j (str q[j]) (by simp [hlt])
    have hgA := hAr _ rfl
    simp only at hgA
    have hnl := hG q[j] (List.getElem_mem hlt)
    generalize q[j] = nm at *
    simp -dsimp [go_sem, f5, hlt, cA]
    refine call (rname_spec ⟨nm.toArray⟩ w3 (by simp [ByteArray.size]; omega)) ?_
    rintro v w' ⟨rfl, rfl⟩
    rw [show nameOk ⟨nm.toArray⟩ = nmOk nm from rfl]
    cases hnm : nmOk nm with
    | false =>
      simp -dsimp [go_sem]
      exact hS.on
    | true =>
      have hok := addC_ok hnm
      have kd : Nw w' w'.drew := (Kp.refl _ _).drew
      have hpE : ¬ Fu w (fun k => k = r) (fun k => k = p) p := fun e => e.2.2 rfl
      have hrE : ¬ Fu w (fun k => k = r) (fun k => k = p) r := fun e => e.2.1 rfl
      have hAE : ¬ Fu w (fun k => k = r) (fun k => k = p) gA := fun e => by have e := e.1; omega
      simp -dsimp [go_sem]
      refine draw (.take 0 (.take 1 (.take 2 (.take 3 (.take 4 (.take 5 (.take 6 (.take 7 (.alt 8 (.alt 9 (.take 10 (.take 11 (.take 12 (.take 13 (.take 14 .done))))) .stop) .stop))))))))) (by kernel_rfl) (fun wz => Kp (Fu w (fun k => k = r) (fun k => k = p)) w' wz) (Nw.kp kd _) ?_
      simp -dsimp [go_sem, f5, hlt, p2, cA]
      refine ⟨fun wz hz => by simp [hz.cell_some p2 hpE], fun wz hz => by simp [hz.cell_some cA hAE], ?_⟩
      simp [go_sem]
      refine ⟨Nw.kp kd _, ?_⟩
      refine call ((hS.nw kd).do hSf.tok (rc_plain w'.drew 1 nm [112] [] [] 0 0 0) (chgOk_ok hok).sz (by simp)) ?_
      have hstep := hSf.step (addC nm) (by omega) (by omega) (by omega)
      have hpq : plan S.T (addC nm) = plAdd S.T (addC nm) := rfl
      rw [hpq] at hstep
      have hadd : plAdd S.T (addC nm) = if (tLook S.T.us nm).isSome then (8, 0, S.T) else if 4 ≤ S.T.us.length then (6, 0, S.T) else (0, 0, ⟨S.T.next + 1, tLay S.T.us nm ⟨[112], [(inboxN, newB inboxN S.T.next)]⟩⟩) := by
        unfold plAdd
        rw [if_neg (show ¬ 1048576 ≤ S.T.next by omega)]
      rw [hadd] at hstep
      have hgo : doA S (addC nm) = doA S ⟨1, nm, [112], [], [], [], 0, 0, 0, []⟩ := rfl
      rw [← hgo]
      generalize doA S (addC nm) = R at *
      rintro v w5 ⟨rfl, hS5, k5⟩
      have k45 := (Nw.kp kd _).trans k5 fun _ _ h => h
      have hp5 := hp.kp k45 hpE
      have p25 := hp5.cell 2
      have cA5 := k45.cell_some cA hAE
      have hM5 := hM.kp k45 hrE
      have hlk5 := lookup_mp KL hmt2 (z := .bool false) (w := w5) rfl hM5 nm false
      rw [hv_get] at hlk5
      have hlen5 := fun (ty : TypeId) => len_mp (ty := ty) KL hmt2 hM5 (keys_nodup ok.srt) (hv_some S.T)
      rw [keysA_len] at hlen5
      refine ⟨k45, ?_⟩
      by_cases hh : (tLook S.T.us nm).isSome = true
      · rw [if_pos hh] at hstep
        obtain rfl : R = (S, 0, 8) := by
          rcases hstep with ⟨h, _⟩ | ⟨_, _, h⟩ | ⟨_, h, _⟩
          · rw [hok] at h; cases h
          · exact h
          · cases h
        simp -dsimp [go_sem, f5, hlt, cA5, hlk5, hh, hj1]
        exact ⟨⟨j1, S, rfl, by omega, hSf.mono (by omega) (by omega) (by omega), hnx, hp5, hM5, hS5⟩, by simp [intOf]; omega⟩
      · rw [if_neg hh] at hstep
        have hh' : (tLook S.T.us nm).isSome = false := by simpa using hh
        by_cases h4 : 4 ≤ S.T.us.length
        · rw [if_pos h4] at hstep
          have h4' : (4 : Int) ≤ (S.T.us.length : Int) := by omega
          obtain rfl : R = (S, 0, 6) := by
            rcases hstep with ⟨h, _⟩ | ⟨_, _, h⟩ | ⟨_, h, _⟩
            · rw [hok] at h; cases h
            · exact h
            · cases h
          simp -dsimp [go_sem, f5, hlt, cA5, hlk5, hh', hlen5, h4', hj1]
          exact ⟨⟨j1, S, rfl, by omega, hSf.mono (by omega) (by omega) (by omega), hnx, hp5, hM5, hS5⟩, by simp [intOf]; omega⟩
        · rw [if_neg h4] at hstep
          have h4' : ¬ (4 : Int) ≤ (S.T.us.length : Int) := by omega
          obtain ⟨S', rfl, hT', hSf'⟩ : ∃ S', R = (S', 0, 0) ∧ S'.T = ⟨S.T.next + 1, tLay S.T.us nm ⟨[112], [(inboxN, newB inboxN S.T.next)]⟩⟩ ∧ Sf S' (600000 * j + 600000) (2 * j + 2) (j + 1) := by
            rcases hstep with ⟨h, _⟩ | ⟨_, h, _⟩ | ⟨_, _, S', h⟩
            · rw [hok] at h; cases h
            · exact absurd rfl h
            · exact ⟨S', h⟩
          obtain ⟨w6, hup6, hM6, hk6⟩ := update_mp KL hmt2 hM5 nm (.bool true)
          rw [hv_put S.T (S.T.next + 1) nm ⟨[112], [(inboxN, newB inboxN S.T.next)]⟩, ← hT'] at hM6
          have hln' : S'.T.us.length = S.T.us.length + 1 := by rw [hT']; show (tLay _ _ _).length = _; rw [lay_len ok.srt, if_neg hh]
          have hS6 := hS5.own hk6
          have hpr : ¬ At r p := fun (e : p = r) => by omega
          have hp6 := hp5.kp hk6 hpr
          have p26 := hp6.cell 2
          have cA6 := hk6.cell_some cA5 (fun (e : gA = r) => by omega)
          have ok' := hSf'.tok
          have hgb : getB S'.T nm inboxN = some (newB inboxN S.T.next) := by rw [hT']; exact newU_get _ _ _ _ _
          have kd : Nw w6 w6.drew := (Kp.refl _ _).drew
          have hget : ∀ W, Nw w6 W → Cal Tryz.prog 22 #[.pointer (some ⟨s, 0, none⟩), str nm, .string ⟨#[105, 110, 98, 111, 120]⟩] W fun v w' => Nw W w' ∧ ∃ bv, v = .tuple #[bv, .bool true] ∧ OB w' bv (newB inboxN S.T.next) W.heap.size := fun W k => by
            refine ((hS6.nw k).get ok' nm inboxN).mono ?_
            rw [hgb]
            rintro v w' ⟨a1, b', bv, e1, e2, e3⟩
            rcases e3 with e3 | e3
            · cases e3
            · cases e3
              exact ⟨a1, bv, e1, e2⟩
          simp -dsimp [go_sem, f5, hlt, cA5, hlk5, hh', hlen5, h4', hup6]
          refine draw_cut (.take 0 (.take 1 (.take 2 (.take 3 (.take 4 (.take 5 (.take 6 (.take 7 (.alt 8 (.take 9 (.take 10 (.take 11 (.alt 12 (.alt 13 (.take 14 .done) .stop) .stop)))) (.alt 12 (.alt 8 (.take 9 (.take 10 (.take 11 (.alt 13 (.take 14 .done) .stop)))) .stop) .stop))))))))))
            (fun st w' => st 0 = .slice (some ⟨gA, oA, none⟩) q.length ca ∧ st 3 = .pointer (some ⟨p, 0, none⟩) ∧ st 4 = .map (some r) ∧ st 5 = i64 j ∧ st 10 = .bool true ∧ ∃ z, st 9 = .pointer (some ⟨z, 0, none⟩) ∧ BxV w6 w' z (newB inboxN S.T.next))
            (by kernel_rfl) (fun wz => Nw w6 wz) kd ?_ ?_
          · simp -dsimp [go_sem, f5, hlt, cA6, p26]
            refine ⟨fun wz hz => by simp [hz.cell_some p26 fun h => h], fun wz hz => by simp [hz.cell_some cA6 fun h => h], ?_, ?_⟩
            · refine call (hget _ kd) ?_
              rintro v w7 ⟨k7, bv, rfl, hO⟩
              obtain ⟨A7, c7, rfl⟩ := hO.open_
              have n7 := kd.nw k7
              have hB := BxV.alloc hO n7
              refine ⟨n7, ?_⟩
              simp -dsimp [go_sem]
              have ka : ∀ cs, Nw w7 (w7.alloc (.cells cs 52)) := fun cs => (Kp.refl _ _).alloc _
              exact ⟨n7.nw (ka _), n7.nw (ka _), f5, hB⟩
            · have kz : Nw w6 (w6.alloc (.cells #[.string ⟨#[]⟩, i64 0, i64 0, .slice none 0 0] 52)).drew := ((Kp.refl _ _).alloc _).drew
              have hz0 : Blk (w6.alloc (.cells #[.string ⟨#[]⟩, i64 0, i64 0, .slice none 0 0] 52)).drew w6.heap.size 52 #[.string ⟨#[]⟩, i64 0, i64 0, .slice none 0 0] := (Blk.new w6 _ _).nw ((Kp.refl (fun _ => False) _).drew)
              refine ⟨kz, ?_⟩
              obtain ⟨z, hz⟩ : ∃ z, z = w6.heap.size := ⟨_, rfl⟩
              rw [← hz] at hz0 ⊢
              generalize (w6.alloc (.cells #[.string ⟨#[]⟩, i64 0, i64 0, .slice none 0 0] 52)).drew = wz at *
              have hzl := hz0.lt
              refine call (hget wz kz) ?_
              rintro v w7 ⟨k7, bv, rfl, hO⟩
              obtain ⟨A7, c7, rfl⟩ := hO.open_
              have n7 := kz.nw k7
              have hz7 := hz0.nw k7
              have z0 := hz7.cell 0
              have z1 := hz7.cell 1
              have z2 := hz7.cell 2
              have z3 := hz7.cell 3
              have zf0 := hz7.frozen 0
              have zf1 := hz7.frozen 1
              have zf2 := hz7.frozen 2
              have zf3 := hz7.frozen 3
              have hB := BxV.put (w := w) (cs := #[]) hO hz7 hzl n7 (by omega)
              refine ⟨n7, ?_⟩
              simp -dsimp [go_sem, z0, z1, z2, z3, zf0, zf1, zf2, zf3]
              exact ⟨n7.at_ (kp_set4 w7 z _ _ _ _) fun k (e : k = z) => by omega, f5, hB⟩
          · rintro f8 w7 ⟨e0, e3, e4, e5, e10, z, e9, A6, n6, c6, hn6, hz, hR, k67, hzl⟩
            have z1 := hz.cell 1
            have z2 := hz.cell 2
            have z3 := hz.cell 3
            have hn6 : n6 = 0 := hn6
            subst hn6
            have hM7 := hM6.kp k67 fun h => h
            have hlen7 := fun (ty : TypeId) => len_mp (ty := ty) KL hmt2 hM7 (keys_nodup ok'.srt) (hv_some S'.T)
            rw [keysA_len, hln'] at hlen7
            have hval : (newB inboxN S.T.next).val = ((S.T.us.length + 1 : Nat) : Int) := by show S.T.next = _; omega
            have hnxt : (newB inboxN S.T.next).next = 1 := rfl
            have hnm : (newB inboxN S.T.next).name = ⟨inboxN.toArray⟩ := rfl
            rw [hval] at z1
            rw [hnxt] at z2
            simp -dsimp [go_sem, e4, e5, e10, e9, z1, z2, z3, hlen7, hj1]
            exact ⟨⟨j1, S', rfl, by omega, by rw [hj1']; exact hSf'.mono (by omega) (by omega) (by omega), by rw [hln', hT']; show S.T.next + 1 = _; omega, hp6.nw k67, hM7, hS6.nw k67⟩, by simp [intOf, f5]; omega⟩
  · obtain rfl : j = q.length := by omega
    simp -dsimp [go_sem, f5, hlt, p2]
    refine call (hS.users ok) ?_
    rintro v w4 ⟨k4, B, cb, rfl, hrB, hcb, hBl⟩
    rw [keysA_len]
    have hl4 := fun (ty : TypeId) => hlen ty w4 k4
    simp -dsimp [go_sem, hl4]
    refine call (stknown_spec w4) ?_
    rintro v w5 ⟨rfl, k5⟩
    simp -dsimp [go_sem]
    exact (hS.on.nw k4).nw k5
end Go.Proofs.YtipdndmfngpbfaaGreatDoor

