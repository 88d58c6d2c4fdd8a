/-
  LockOne walked. By the session itself.
-/
import Derived.Test.YtigakpfdahjkdaaLkA
namespace Go.Proofs.Ytigakpfdahjkdaa
set_option linter.unusedSimpArgs false
set_option linter.unusedVariables false
open Go.Vc Go.RowKit

structure Act where
  kind : Int
  user : ByteArray
  conn : Int
  now : Int
  limit : Int
def Act.cells (a : Act) : List Value := [i64 a.kind, .string a.user, i64 a.conn, i64 a.now, i64 a.limit]
/-- The acts of a slice. -/
def Acts (w : World) (A : Option Addr) (l : List Act) : Prop := ∀ i (h : i < l.length), ∃ b o, A = some ⟨b, o, none⟩ ∧ ∀ j u, l[i].cells[j]? = some u → w.cell? ⟨b, o + i * 5 + j, none⟩ = some u
theorem Acts.nw {w w' : World} {A : Option Addr} {l : List Act} (h : Acts w A l) (k : Nw w w') : Acts w' A l := fun i hi => by
  obtain ⟨b, o, rfl, hc⟩ := h i hi
  exact ⟨b, o, rfl, fun j u hj => k.cell_some (hc j u hj) fun h => h⟩

theorem long_spec (l : List Act) (A : Option Addr) (c : Nat) (w : World) (h : Acts w A l) :
    Cal Try.prog 12 #[.slice A l.length c] w fun v w' => (∃ b, v = .bool b) ∧ w' = w := by
  refine enter Try.mixed Try.func12 rfl (by kernel_rfl) ?_
  simp -dsimp [go_sem]
  refine loop [2, 3, 4, 5, 6, 7, 8, 9, 10, 11, 12, 13, 14, 15, 16, 17, 18, 19, 20, 21, 22, 23, 24, 25, 26, 27, 28, 29, 30, 31, 32, 33, 34, 35, 36, 37, 38, 39, 40, 41, 42, 43, 44, 45, 46, 47, 48, 49, 50, 51, 52, 53, 54, 55, 56, 57] (by kernel_rfl)
    (fun f w' => Box (∃ (i : Nat) (z : Int), f 4 = i64 i ∧ f 3 = i64 z ∧ i ≤ 100 ∧ w' = w)) (fun f _ => 100 - (intOf (f 4)).toNat) ⟨0, 0, rfl, rfl, by omega, rfl⟩ ?_
  rintro f w' ⟨i, z, f4, f3, hi, rfl⟩
  by_cases hlt : i < l.length
  · by_cases h100 : i < 100
    · obtain ⟨b, o, rfl, hc⟩ := h i hlt
      have h1 := hc 1 _ rfl
      have h3 := hc 3 _ rfl
      have h4 := hc 4 _ rfl
      have h100' : (i : Int) < 100 := by omega
      have hk1 : IntKind.i64.wrap ((i : Int) + 1) = ((i + 1 : Nat) : Int) := w64 (by omega) (by omega)
      obtain ⟨k1, hk1'⟩ : ∃ k1, k1 = i + 1 := ⟨_, rfl⟩
      rw [← hk1'] at hk1
      obtain ⟨z1, hz1⟩ : ∃ z1, IntKind.i64.wrap (IntKind.i64.wrap (z + 1) + (l[i].user.size : Int)) = z1 := ⟨_, rfl⟩
      by_cases c1 : 3000 < z1
      · simp -dsimp [go_sem, f3, f4, hlt, h100', h1, h3, h4, hz1, c1]
      · by_cases c2 : l[i].now < 0
        · simp -dsimp [go_sem, f3, f4, hlt, h100', h1, h3, h4, hz1, c1, c2]
        · by_cases c3 : 1099511627776 < l[i].now
          · simp -dsimp [go_sem, f3, f4, hlt, h100', h1, h3, h4, hz1, c1, c2, c3]
          · by_cases c4 : l[i].limit < 0
            · simp -dsimp [go_sem, f3, f4, hlt, h100', h1, h3, h4, hz1, c1, c2, c3, c4]
            · by_cases c5 : 1099511627776 < l[i].limit
              · simp -dsimp [go_sem, f3, f4, hlt, h100', h1, h3, h4, hz1, c1, c2, c3, c4, c5]
              · simp -dsimp [go_sem, f3, f4, hlt, h100', h1, h3, h4, hz1, c1, c2, c3, c4, c5, hk1]
                exact ⟨⟨k1, z1, rfl, rfl, by omega, rfl⟩, by simp [intOf]; omega⟩
    · have h100' : ¬ (i : Int) < 100 := by omega
      simp -dsimp [go_sem, f3, f4, hlt, h100']
  · simp -dsimp [go_sem, f3, f4, hlt]

theorem lknown_spec (w : World) : Cal Try.prog 17 #[] w fun v w' => v = .bool true ∧ Nw w w' := by
  refine enter Try.mixed Try.func17 rfl (by kernel_rfl) ?_
  simp -dsimp [go_sem]
  refine call (new_spec w) ?_
  rintro v w1 ⟨g, F, rfl, hL, nF, hk⟩
  simp -dsimp [go_sem]
  refine call (take_spec g _ _ F _ _ w1 hL) ?_
  rintro v w2 ⟨rfl, hL2, hk2⟩
  have e1 : mayF (fun _ => none) (⟨#[97]⟩ : ByteArray) 1 = true := rfl
  have k2 := hk.at_ hk2 nF
  rw [e1]
  simp -dsimp [go_sem]
  refine call (take_spec g _ _ F _ _ w2 hL2) ?_
  rintro v w3 ⟨rfl, hL3, hk3⟩
  have e2 : mayF (takeF (fun _ => none) (⟨#[97]⟩ : ByteArray) 1) (⟨#[97]⟩ : ByteArray) 2 = false := by decide +kernel
  have k3 := k2.at_ hk3 nF
  rw [e2]
  simp -dsimp [go_sem]
  refine call (take_spec g _ _ F _ _ w3 hL3) ?_
  rintro v w4 ⟨rfl, hL4, hk4⟩
  have e3 : mayF (takeF (takeF (fun _ => none) (⟨#[97]⟩ : ByteArray) 1) (⟨#[97]⟩ : ByteArray) 2) (⟨#[97]⟩ : ByteArray) 1 = true := by decide +kernel
  have k4 := k3.at_ hk4 nF
  rw [e3]
  simp -dsimp [go_sem]
  refine call (take_spec g _ _ F _ _ w4 hL4) ?_
  rintro v w5 ⟨rfl, hL5, hk5⟩
  have e4 : mayF (takeF (takeF (takeF (fun _ => none) (⟨#[97]⟩ : ByteArray) 1) (⟨#[97]⟩ : ByteArray) 2) (⟨#[97]⟩ : ByteArray) 1) (⟨#[98]⟩ : ByteArray) 2 = true := by decide +kernel
  rw [e4]
  simp -dsimp [go_sem]
  exact k4.at_ hk5 nF

theorem one_law (l : List Act) (A : Option Addr) (c : Nat) (w : World) (h : Acts w A l) :
    Cal Try.prog 3 #[.slice A l.length c] w fun v w' => v = .bool true ∧ Nw w w' := by
  have K : KeyS Try.prog 9 kStr := keyStr (by kernel_rfl)
  have hmt : Try.prog.underlying 26 = some (.map 9 3) := by kernel_rfl
  refine enter Try.mixed Try.func3 rfl (by kernel_rfl) ?_
  simp -dsimp [go_sem]
  refine call (long_spec l A c w h) ?_
  rintro v w0 ⟨⟨b, rfl⟩, rfl⟩
  simp -dsimp [go_sem]
  refine cond_b (fun hb => ?_) (fun hb => ?_)
  · simp -dsimp [go_sem]
    exact Kp.refl _ _
  · simp -dsimp [go_sem]
    refine call (new_spec w0) ?_
    rintro v w1 ⟨g, F, rfl, hL, nF, hk⟩
    have hmk := run_makeMap (P := Try.prog) 26 w1
    simp -dsimp [go_sem, hmk]
    have m1 : Mp (w1.alloc (.map #[] 0)) w1.heap.size kStr (Mi fun _ => none) := Mp.new w1
    have k1 := hk.alloc (.map #[] 0)
    have hL1 := hL.kp ((Kp.refl (fun _ => False) w1).alloc (.map #[] 0)) fun _ _ h => h
    have hFr : ¬ F w1.heap.size := fun hf => by
      obtain ⟨_, _, _, _, _, _, _, hlt⟩ := hL
      exact Nat.lt_irrefl _ (hlt _ hf)
    have hsz := hk.size
    generalize w1.alloc (.map #[] 0) = w2 at *
    obtain ⟨r, hr⟩ : ∃ r, r = w1.heap.size := ⟨_, rfl⟩
    rw [← hr] at m1 hFr hsz ⊢
    refine loop [2, 5, 6, 7, 8, 9, 10, 11, 12, 19, 20, 21, 22, 23, 24, 25, 26, 27, 28, 29, 30, 31, 32, 33, 34, 35, 36, 37, 38, 39, 40, 41, 42, 43, 44, 45, 46, 47, 48, 49, 50, 51, 52, 53, 54, 55, 56, 57, 58, 59, 60, 61, 62, 63, 64, 65, 66, 67, 68, 69, 70, 71, 72, 73, 74, 75, 76, 77, 78, 79, 80, 81, 82, 83, 84, 85, 86, 87, 88, 89, 90, 91, 92, 93, 94, 95, 96, 97, 98] (by kernel_rfl)
      (fun s w' => Box (∃ (i : Nat) (f : ByteArray → Option Int), s 5 = i64 i ∧ i ≤ 100 ∧ Lk w' g f (fun _ => none) F ∧ Mp w' r kStr (Mi f) ∧ Nw w0 w')) (fun s _ => 100 - (intOf (s 5)).toNat) ⟨0, _, rfl, by omega, hL1, m1, k1⟩ ?_
    rintro s w' ⟨i, f, s5, hi, hL, hM, hK⟩
    by_cases hlt : i < l.length
    · by_cases h100 : i < 100
      · have h100' : (i : Int) < 100 := by omega
        obtain ⟨b, o, rfl, hc⟩ := (h.nw hK) i hlt
        have c0 := hc 0 _ rfl
        have c1 := hc 1 _ rfl
        have c2 := hc 2 _ rfl
        have c3 := hc 3 _ rfl
        have c4 := hc 4 _ rfl
        rw [Nat.add_zero] at c0
        generalize l[i].kind = kd at *
        generalize l[i].user = un at *
        generalize l[i].conn = cn at *
        generalize l[i].now = nw at *
        generalize l[i].limit = lm at *
        clear hc
        have ka : Nw w' (w'.alloc (.cells #[i64 kd, .string un, i64 cn, i64 nw, i64 lm] 28)) := (Kp.refl _ _).alloc _
        have hq : Blk (w'.alloc (.cells #[i64 kd, .string un, i64 cn, i64 nw, i64 lm] 28)) w'.heap.size 28 #[i64 kd, .string un, i64 cn, i64 nw, i64 lm] := Blk.new _ _ _
        have hqF : ¬ F w'.heap.size := fun hf => by
          obtain ⟨_, _, _, _, _, _, _, hlt⟩ := hL
          exact Nat.lt_irrefl _ (hlt _ hf)
        have hrl := hM.lt
        have hLa := hL.kp ka fun _ _ h => h
        have hMa := hM.kp ka fun h => h
        have ka0 := Kp.nw hK ka
        have hk1 : IntKind.i64.wrap ((i : Int) + 1) = ((i + 1 : Nat) : Int) := w64 (by omega) (by omega)
        obtain ⟨k1, hk1'⟩ : ∃ k1, k1 = i + 1 := ⟨_, rfl⟩
        rw [← hk1'] at hk1
        by_cases hk2 : kd = 2
        · subst hk2
          simp -dsimp [go_sem, s5, hlt, h100', c0, c1, c2, c3, c4]
          generalize w'.alloc (.cells #[i64 2, .string un, i64 cn, i64 nw, i64 lm] 28) = wa at *
          refine call (free_spec g f _ F cn wa hLa) ?_
          rintro v w3 ⟨rfl, hL3, hk3⟩
          have hq3 := hq.kp hk3 hqF
          have hM3 := hMa.kp hk3 hFr
          have k3 : Nw w0 w3 := ka0.at_ hk3 nF
          obtain ⟨w4, hrun, hR, hk4⟩ := range_mp hmt hM3
          simp -dsimp [go_sem, hrun]
          obtain ⟨it, hit⟩ : ∃ it, it = w3.heap.size := ⟨_, rfl⟩
          rw [← hit] at hR ⊢
          refine loop [7, 8, 42, 43, 44, 45, 46, 47, 48, 49, 50, 51, 52] (by kernel_rfl)
            (fun _ w5 => Box (∃ (f' : ByteArray → Option Int) (left : ByteArray → Prop), Rg w5 it r kStr (Mi f') left ∧ (∀ x, left x → f' x = f x) ∧ (∀ x, ¬ left x → f' x = freeF f cn x) ∧ Kp (At r) w3 w5)) (fun _ w5 => rgN w5 it r)
            ⟨f, fun _ => True, hR, fun _ _ => rfl, fun _ h => absurd trivial h, hk4.kp _⟩ ?_
          rintro s2 w5 ⟨f', left, hR, hl1, hl2, hK5⟩
          rcases next_rg (P := Try.prog) K.inj hR 0 with ⟨hend, hnext⟩ | ⟨a, v, w6, ha, hla, hnext, hR2, hK6, hN6, hentry⟩
          · simp -dsimp [go_sem, hnext, s5, hk1]
            have hf : f' = freeF f cn := by
              funext x
              by_cases hx : left x
              · have h1 := hl1 x hx
                cases hfx : f x with
                | none => simp [h1, freeF, hfx]
                | some c => exact absurd hx (hend x (i64 c) (by simp [Mi, h1, hfx]))
              · exact hl2 x hx
            subst hf
            exact ⟨⟨k1, _, rfl, by omega, hL3.kp hK5 fun j hj (e : j = r) => hFr (e ▸ hj), hR.mp, k3.at_ hK5 (Nf.at_ hsz)⟩, by simp [intOf]; omega⟩
          · have hfa := hl1 a hla
            obtain ⟨c, hc⟩ : ∃ c, f a = some c := by
              cases hfx : f a with
              | none => simp [Mi, hfa, hfx] at ha
              | some c => exact ⟨c, rfl⟩
            have hv : v = i64 c := by
              simp [Mi, hfa, hc] at ha
              exact ha.symm
            subst hv
            have hK6' : Kp (At r) w3 w6 := hK5.trans hK6 fun j hj (e : j = it) => by omega
            have hq6 := hq3.kp hK6' (fun e => by
              have e : w'.heap.size = r := e
              omega)
            have q2 := hq6.cell 2
            by_cases hcn : c = cn
            · subst hcn
              obtain ⟨w7, hdel, hR3, hK7, hN7⟩ := delete_rg (ty := 0) K hmt hR2 a
              have hdel' : deleteS Try.prog #[26, 9] 0 #[.map (some r), kStr a] w6 = .ok (.tuple #[]) w7 := hdel
              rw [cut_mi] at hR3
              simp -dsimp [go_sem, hnext, hentry, q2, hdel']
              refine ⟨⟨_, _, hR3, fun x hx => ?_, fun x hx => ?_, hK6'.trans hK7 fun _ _ h => h⟩, by omega⟩
              · show (if x = a then none else f' x) = f x
                rw [if_neg hx.2]
                exact hl1 x hx.1
              · show (if x = a then none else f' x) = _
                by_cases hxa : x = a
                · rw [if_pos hxa, hxa]
                  simp [freeF, hc]
                · rw [if_neg hxa]
                  exact hl2 x fun hl => hx ⟨hl, hxa⟩
            · have hcn' : (c == cn) = false := by simpa using hcn
              simp -dsimp [go_sem, hnext, hentry, q2, hcn']
              refine ⟨⟨f', _, hR2, fun x hx => hl1 x hx.1, fun x hx => ?_, hK6'⟩, hN6⟩
              by_cases hx' : left x
              · have hxa : x = a := by
                  by_cases hxa : x = a
                  · exact hxa
                  · exact absurd ⟨hx', hxa⟩ hx
                subst hxa
                rw [hfa, hc]
                simp [freeF, hc, hcn]
              · exact hl2 x hx'
        · have hk2' : (kd == 2) = false := by simpa using hk2
          have hl := lookup_mp K hmt (z := i64 0) (w := w'.alloc (.cells #[i64 kd, .string un, i64 cn, i64 nw, i64 lm] 28)) rfl hMa un true
          have e1 : (Mi f un).getD (i64 0) = i64 ((f un).getD 0) := by cases hfu : f un <;> simp [Mi, hfu]
          have e2 : (Mi f un).isSome = (f un).isSome := by cases hfu : f un <;> simp [Mi, hfu]
          rw [e1, e2] at hl
          simp -dsimp [go_sem, s5, hlt, h100', c0, c1, c2, c3, c4, hk2', hl]
          generalize w'.alloc (.cells #[i64 kd, .string un, i64 cn, i64 nw, i64 lm] 28) = wa at *
          refine call (take_spec g f _ F un cn wa hLa) ?_
          rintro v w3 ⟨rfl, hL3, hk3⟩
          have hq3 := hq.kp hk3 hqF
          have hM3 := hMa.kp hk3 hFr
          have k3 : Nw w0 w3 := ka0.at_ hk3 nF
          have q1 := hq3.cell 1
          have q2 := hq3.cell 2
          cases hfu : f un with
          | none =>
            have em : mayF f un cn = true := by simp [mayF, hfu]
            obtain ⟨w4, hup, hM4, hk4⟩ := update_mp K hmt hM3 un (i64 cn)
            have hup' : (Instr.mapUpdate 26 (.map (some r)) (.string un) (i64 cn)).run Try.prog w3 = .ok () w4 := hup
            rw [put_mi] at hM4
            have et : takeF f un cn = fun x => if x = un then some cn else f x := by simp [takeF, hfu]
            rw [et] at hL3
            simp -dsimp [go_sem, em, hfu, q1, q2, hup']
            have hq4 := hq3.kp hk4 (fun e => by
              have e : w'.heap.size = r := e
              omega)
            have q14 := hq4.cell 1
            have hL4 := hL3.kp hk4 fun j hj (e : j = r) => hFr (e ▸ hj)
            have k4 : Nw w0 w4 := k3.at_ hk4 (Nf.at_ hsz)
            simp -dsimp [go_sem, q14]
            refine call (holder_spec g _ _ F un w4 hL4) ?_
            rintro v w5 ⟨rfl, rfl⟩
            have hl4 := lookup_mp K hmt (z := i64 0) (w := w5) rfl hM4 un false
            have e3 : (Mi (fun x => if x = un then some cn else f x) un).getD (i64 0) = i64 cn := by simp [Mi]
            rw [e3] at hl4
            have hl4' : (Instr.lookup 26 (.map (some r)) (.string un) false).run Try.prog w5 = .ok (i64 cn) w5 := hl4
            simp -dsimp [go_sem, q14, hl4', s5, hk1]
            exact ⟨⟨k1, _, rfl, by omega, hL4, hM4, k4⟩, by simp [intOf]; omega⟩
          | some c =>
            have et : takeF f un cn = f := by
              simp [takeF, hfu]
            rw [et] at hL3
            have hl3 := lookup_mp K hmt (z := i64 0) (w := w3) rfl hM3 un false
            have e3 : (Mi f un).getD (i64 0) = i64 c := by simp [Mi, hfu]
            rw [e3] at hl3
            have hl3' : (Instr.lookup 26 (.map (some r)) (.string un) false).run Try.prog w3 = .ok (i64 c) w3 := hl3
            have em : mayF f un cn = (c == cn) := by
              simp only [mayF, hfu]
              rfl
            simp -dsimp [go_sem, em, hfu, q1, q2]
            refine call (holder_spec g _ _ F un w3 hL3) ?_
            rintro v w5 ⟨rfl, rfl⟩
            simp -dsimp [go_sem, q1, hl3', s5, hk1, hfu]
            exact ⟨⟨k1, _, rfl, by omega, hL3, hM3, k3⟩, by simp [intOf]; omega⟩
      · have h100' : ¬ (i : Int) < 100 := by omega
        simp -dsimp [go_sem, s5, hlt, h100']
        refine call (lknown_spec w') ?_
        rintro v w3 ⟨rfl, hk3⟩
        simp -dsimp [go_sem]
        exact hK.nw hk3
    · simp -dsimp [go_sem, s5, hlt]
      refine call (lknown_spec w') ?_
      rintro v w3 ⟨rfl, hk3⟩
      simp -dsimp [go_sem]
      exact hK.nw hk3
end Go.Proofs.Ytigakpfdahjkdaa
