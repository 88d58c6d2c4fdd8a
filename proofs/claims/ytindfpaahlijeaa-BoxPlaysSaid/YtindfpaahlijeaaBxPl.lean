/-
  BoxPlays walked. By the session itself.
-/
import Derived.Test.YtindfpaahlijeaaBxV
namespace Go.Proofs.Ytindfpaahlijeaa
set_option linter.unusedSimpArgs false
set_option linter.unusedVariables false
set_option maxRecDepth 100000
set_option maxHeartbeats 2000000
open Go.Vc Go.RowKit

/-- What a script's box comes to. -/
structure Pb (b : Bx) : Prop where
  many : b.L.length ≤ 24
  body : ∀ m ∈ b.L, m.body.length ≤ 1200
  next : 1 ≤ b.next
  name : b.name.size ≤ 60
theorem Pb.add {b : Bx} (h : Pb b) (flags date : Int) (body : List UInt8) : Pb (addB b flags date body).1 := by
  unfold addB
  split
  · exact h
  · split
    · exact h
    · split
      · exact h
      · split
        · exact h
        · rename_i h1 h2 h3 h4
          refine ⟨by simp; omega, fun m hm => ?_, by show 1 ≤ b.next + 1; have := h.next; omega, h.name⟩
          simp only [List.mem_append, List.mem_singleton] at hm
          rcases hm with hm | rfl
          · exact h.body m hm
          · simp only; omega
theorem Pb.mark {b : Bx} (h : Pb b) (uids : List Int) (mode flags : Int) : Pb { b with L := b.L.map (mk1 uids mode flags) } :=
  ⟨by simpa using h.many, fun m hm => by
    obtain ⟨m0, hm0, rfl⟩ := List.mem_map.1 hm
    have : (mk1 uids mode flags m0).body = m0.body := by unfold mk1; split <;> rfl
    rw [this]; exact h.body _ hm0, h.next, h.name⟩
theorem Pb.stay {b : Bx} (h : Pb b) (uids : List Int) : Pb { b with L := stayB uids b.L } :=
  ⟨Nat.le_trans (by unfold stayB; exact List.length_filter_le _ _) h.many, fun m hm => h.body m (List.mem_filter.1 hm).1, h.next, h.name⟩
theorem act_any (y1 y2 B0 : Nat) (b : Bx) (a : Ac) (vU vB : Value) (w : World) (h : Two w y1 y2 B0 b) (hp : Pb b)
    (hU : RdI w vU a.uids) (hB : RdB w vB a.body (fun _ => False)) (hul : a.uids.length ≤ 9000) (hk : a.kind = 2 ∨ a.kind = 3 → isB b = true) :
    Cal Try.prog 24 #[.pointer (some ⟨y1, 0, none⟩), .pointer (some ⟨y2, 0, none⟩), .agg #[i64 a.kind, i64 a.flags, i64 a.date, i64 a.mode, vU, vB]] w fun v w' => v = .bool true ∧ ∃ b', Pb b' ∧ Two w' y1 y2 B0 b' ∧ Kp (fun k => k = y1 ∨ k = y2) w w' := by
  have hl : b.L.length ≤ 1000000 := by have := hp.many; omega
  have hbl : ∀ m ∈ b.L, m.body.length ≤ 1000000000 := fun m hm => by have := hp.body m hm; omega
  by_cases h1 : a.kind = 1
  · exact (act_spec y1 y2 B0 b a vU vB w h hl hbl (by have := hp.next; omega) hU hB hul h1).mono fun v w' ⟨e, t, k⟩ => ⟨e, _, hp.add _ _ _, t, k⟩
  by_cases h2 : a.kind = 2
  · exact (act_mark y1 y2 B0 b a vU vB w h hl hbl hU hB hul h2).mono fun v w' ⟨e, t, k⟩ => ⟨e, _, hp.mark _ _ _, t, k⟩
  by_cases h3 : a.kind = 3
  · exact (act_exp y1 y2 B0 b a vU vB w h hl hbl hU hB hul ⟨h3, hk (.inr h3)⟩).mono fun v w' ⟨e, t, k⟩ => ⟨e, _, hp.stay _, t, k⟩
  exact (act_find y1 y2 B0 b a vU vB w h hl hU hB hul ⟨h1, h2, h3⟩).mono fun v w' ⟨e, t, k⟩ => ⟨e, _, hp, t, k⟩
theorem plays_law (nm : ByteArray) (vl : Int) (A : Option Addr) (c : Nat) (q : AQ) (w : World) (hr : Rd w A (aq q)) (hG : ∀ p ∈ q, ActG w p) (hl : q.length ≤ 9223372036854775807) (hnm : nm.size ≤ 9223372036854775807) :
    Cal Try.prog 9 #[.string nm, i64 vl, .slice A q.length c] w fun v' w' => v' = .bool true ∧ Nw w w' := by
  refine enter Try.mixed Try.func9 rfl (by kernel_rfl) ?_
  simp -dsimp [go_sem]
  refine call (long_spec A c q w hr hG hl) ?_
  rintro v0 w1 ⟨⟨r, rfl, hlong⟩, hk1⟩
  cases r with
  | true =>
    simp -dsimp [go_sem]
    exact hk1
  | false =>
    have hlong := hlong rfl
    by_cases h60 : 60 < nm.size
    · have h60' : (60 : Int) < (nm.size : Int) := by omega
      simp -dsimp [go_sem, h60, h60']
      exact hk1
    have h60' : ¬ (60 : Int) < (nm.size : Int) := by omega
    simp -dsimp [go_sem, h60, h60']
    refine call (new_spec nm vl w1) ?_
    rintro v w2 ⟨rfl, hk2⟩
    simp -dsimp [go_sem]
    refine call (rnew_spec nm vl w2) ?_
    rintro v w3 ⟨rfl, hk3⟩
    have n3 := (hk1.nw hk2).nw hk3
    simp -dsimp [go_sem]
    obtain ⟨y1, hy1, hb1, hb2, hsz, n4⟩ := two_new w3 26 26 #[.string nm, i64 vl, i64 1, .slice none 0 0] #[.string nm, i64 vl, i64 1, .slice none 0 0]
    rw [← hy1]
    obtain ⟨y2, hy2⟩ : ∃ y2, y2 = y1 + 1 := ⟨_, rfl⟩
    rw [← hy2] at hb2 ⊢
    generalize (w3.alloc (.cells #[.string nm, i64 vl, i64 1, .slice none 0 0] 26)).alloc (.cells #[.string nm, i64 vl, i64 1, .slice none 0 0] 26) = w4 at *
    have hwy : w.heap.size ≤ y1 := by rw [hy1]; exact n3.size
    obtain ⟨B0, hB0⟩ : ∃ B0, B0 = w4.heap.size := ⟨_, rfl⟩
    have hT4 : Two w4 y1 y2 B0 ⟨nm, vl, 1, []⟩ := ⟨none, 0, none, 0, 0, rfl, hb1, rb_new nm vl w4 _, hb2, rb_new nm vl w4 _, by omega, by omega, by omega, by omega⟩
    refine loop [6, 9, 23, 24, 25, 26, 27, 28, 29, 30, 31, 32, 33, 34, 35, 36, 37, 38, 39, 40, 41, 42, 43, 44, 45, 46, 47, 48, 49, 50, 51, 52, 53, 54, 55, 56, 57, 58, 59, 60, 61, 62, 63] (by kernel_rfl)
      (fun f w' => Box1 (fun a w' => ∃ (i : Nat) (b : Bx), a = i64 i ∧ i ≤ q.length ∧ Pb b ∧ Two w' y1 y2 B0 b ∧ Nw w w') (f 9) w') (fun f _ => q.length - (intOf (f 9)).toNat)
      ⟨0, _, rfl, Nat.zero_le _, ⟨by simp, by simp, by simp, by simp only; omega⟩, hT4, n3.nw n4⟩ ?_
    rintro f w5 ⟨i, b, f9, hi, hp, hT, hn⟩
    by_cases hlt : i < q.length
    · by_cases hi6 : i < 60
      · have hi6' : (i : Int) < 60 := by omega
        have hi1 : IntKind.i64.wrap ((i : Int) + 1) = ((i + 1 : Nat) : Int) := by rw [w64 (by omega) (by omega)]; omega
        obtain ⟨i1, hi1'⟩ : ∃ i1, i1 = i + 1 := ⟨_, rfl⟩
        rw [← hi1'] at hi1
        have hul9 := (hlong i hlt hi6).1
        obtain ⟨g, o, rfl, e0, e1, e2, e3, e4, e5⟩ := act_at (hr.nw hn) hlt
        obtain ⟨_, _, B2, c2, ln, hln, _, _, hb2, hR2, _⟩ := id hT
        have t0 : w5.cell? ⟨y2, 0, none⟩ = some (.string b.name) := hb2.cell 0
        have t1 : w5.cell? ⟨y2, 1, none⟩ = some (i64 b.val) := hb2.cell 1
        have t2 : w5.cell? ⟨y2, 2, none⟩ = some (i64 b.next) := hb2.cell 2
        have t3 : w5.cell? ⟨y2, 3, none⟩ = some (.slice B2 ln c2) := hb2.cell 3
        by_cases hk23 : q[i].1.kind = 2 ∨ q[i].1.kind = 3
        · have hk : (q[i].1.kind == 2 || q[i].1.kind == 3) = true := by simpa using hk23
          have hris := ris_spec (.agg #[.string b.name, i64 b.val, i64 b.next, .slice B2 ln c2]) b _ w5 hR2 (by have := hp.name; omega) (by have := hp.many; omega)
          cases hib : isB b with
          | false =>
            rw [hib] at hris
            rcases hk23 with hkk | hkk
            · rw [hkk] at e0
              simp -dsimp [go_sem, f9, hlt, hi6, hi6', e0, t0, t1, t2, t3]
              refine call hris ?_
              rintro v wq ⟨rfl, hkq⟩
              simp -dsimp [go_sem]
              refine call (bxknown_spec _) ?_
              rintro v w9 ⟨rfl, hk9⟩
              simp -dsimp [go_sem]
              exact Kp.nw (hn.nw hkq) hk9
            · rw [hkk] at e0
              simp -dsimp [go_sem, f9, hlt, hi6, hi6', e0, t0, t1, t2, t3]
              refine call hris ?_
              rintro v wq ⟨rfl, hkq⟩
              simp -dsimp [go_sem]
              refine call (bxknown_spec _) ?_
              rintro v w9 ⟨rfl, hk9⟩
              simp -dsimp [go_sem]
              exact Kp.nw (hn.nw hkq) hk9
          | true =>
            rw [hib] at hris
            have hkd : q[i].1.kind = 2 ∨ q[i].1.kind = 3 → isB b = true := fun _ => hib
            rcases hk23 with hkk | hkk
            · have e0' := e0
              rw [hkk] at e0'
              simp -dsimp [go_sem, f9, hlt, hi6, hi6', e0', t0, t1, t2, t3]
              refine call hris ?_
              rintro v wq ⟨rfl, hkq⟩
              have E0 := hkq.cell_some e0 fun h => h
              have E1 := hkq.cell_some e1 fun h => h
              have E2 := hkq.cell_some e2 fun h => h
              have E3 := hkq.cell_some e3 fun h => h
              have E4 := hkq.cell_some e4 fun h => h
              have E5 := hkq.cell_some e5 fun h => h
              simp -dsimp [go_sem, f9, hlt, E0, E1, E2, E3, E4, E5]
              have hAc := act_any y1 y2 B0 b q[i].1 q[i].2.1 q[i].2.2 wq (hT.nw hkq) hp ((hG _ (List.getElem_mem hlt)).1.nw (hn.nw hkq)) ((hG _ (List.getElem_mem hlt)).2.1.nw (hn.nw hkq)) hul9 hkd
              refine call hAc ?_
              rintro v w6 ⟨rfl, b6, hp6, hT6, hk6⟩
              obtain ⟨A1, c1, A2, c2, ln, hln, hb1, hR1, hb2, hR2, _, _, _, hB6⟩ := id hT6
              have n6 := Nw.at_ (hn.nw hkq) hk6 fun k hk => by
                have hk : k = y1 ∨ k = y2 := hk
                omega
              have u0 : w6.cell? ⟨y1, 0, none⟩ = some (.string b6.name) := hb1.cell 0
              have u1 : w6.cell? ⟨y1, 1, none⟩ = some (i64 b6.val) := hb1.cell 1
              have u2 : w6.cell? ⟨y1, 2, none⟩ = some (i64 b6.next) := hb1.cell 2
              have u3 : w6.cell? ⟨y1, 3, none⟩ = some (.slice A1 ln c1) := hb1.cell 3
              have t0 : w6.cell? ⟨y2, 0, none⟩ = some (.string b6.name) := hb2.cell 0
              have t1 : w6.cell? ⟨y2, 1, none⟩ = some (i64 b6.val) := hb2.cell 1
              have t2 : w6.cell? ⟨y2, 2, none⟩ = some (i64 b6.next) := hb2.cell 2
              have t3 : w6.cell? ⟨y2, 3, none⟩ = some (.slice A2 ln c2) := hb2.cell 3
              simp -dsimp [go_sem, u0, u1, u2, u3, t0, t1, t2, t3]
              refine call (rsame_spec _ _ b6 b6 _ _ _ hR1 hR2 (by have := hp6.many; omega) (by have := hp6.many; omega)) ?_
              rintro v w7 ⟨rfl, hk7⟩
              rw [sameB_self]
              simp -dsimp [go_sem, f9, hi1]
              exact ⟨⟨i1, b6, rfl, by omega, hp6, hT6.nw hk7, Kp.nw n6 hk7⟩, by simp [intOf]; omega⟩
            · have e0' := e0
              rw [hkk] at e0'
              simp -dsimp [go_sem, f9, hlt, hi6, hi6', e0', t0, t1, t2, t3]
              refine call hris ?_
              rintro v wq ⟨rfl, hkq⟩
              have E0 := hkq.cell_some e0 fun h => h
              have E1 := hkq.cell_some e1 fun h => h
              have E2 := hkq.cell_some e2 fun h => h
              have E3 := hkq.cell_some e3 fun h => h
              have E4 := hkq.cell_some e4 fun h => h
              have E5 := hkq.cell_some e5 fun h => h
              simp -dsimp [go_sem, f9, hlt, E0, E1, E2, E3, E4, E5]
              have hAc := act_any y1 y2 B0 b q[i].1 q[i].2.1 q[i].2.2 wq (hT.nw hkq) hp ((hG _ (List.getElem_mem hlt)).1.nw (hn.nw hkq)) ((hG _ (List.getElem_mem hlt)).2.1.nw (hn.nw hkq)) hul9 hkd
              refine call hAc ?_
              rintro v w6 ⟨rfl, b6, hp6, hT6, hk6⟩
              obtain ⟨A1, c1, A2, c2, ln, hln, hb1, hR1, hb2, hR2, _, _, _, hB6⟩ := id hT6
              have n6 := Nw.at_ (hn.nw hkq) hk6 fun k hk => by
                have hk : k = y1 ∨ k = y2 := hk
                omega
              have u0 : w6.cell? ⟨y1, 0, none⟩ = some (.string b6.name) := hb1.cell 0
              have u1 : w6.cell? ⟨y1, 1, none⟩ = some (i64 b6.val) := hb1.cell 1
              have u2 : w6.cell? ⟨y1, 2, none⟩ = some (i64 b6.next) := hb1.cell 2
              have u3 : w6.cell? ⟨y1, 3, none⟩ = some (.slice A1 ln c1) := hb1.cell 3
              have t0 : w6.cell? ⟨y2, 0, none⟩ = some (.string b6.name) := hb2.cell 0
              have t1 : w6.cell? ⟨y2, 1, none⟩ = some (i64 b6.val) := hb2.cell 1
              have t2 : w6.cell? ⟨y2, 2, none⟩ = some (i64 b6.next) := hb2.cell 2
              have t3 : w6.cell? ⟨y2, 3, none⟩ = some (.slice A2 ln c2) := hb2.cell 3
              simp -dsimp [go_sem, u0, u1, u2, u3, t0, t1, t2, t3]
              refine call (rsame_spec _ _ b6 b6 _ _ _ hR1 hR2 (by have := hp6.many; omega) (by have := hp6.many; omega)) ?_
              rintro v w7 ⟨rfl, hk7⟩
              rw [sameB_self]
              simp -dsimp [go_sem, f9, hi1]
              exact ⟨⟨i1, b6, rfl, by omega, hp6, hT6.nw hk7, Kp.nw n6 hk7⟩, by simp [intOf]; omega⟩
        · have hkd : q[i].1.kind = 2 ∨ q[i].1.kind = 3 → isB b = true := fun h => absurd h hk23
          have k2 : (q[i].1.kind == 2) = false := by simp; omega
          have k3 : (q[i].1.kind == 3) = false := by simp; omega
          simp -dsimp [go_sem, f9, hlt, hi6, hi6', e0, e1, e2, e3, e4, e5, k2, k3]
          have hAc := act_any y1 y2 B0 b q[i].1 q[i].2.1 q[i].2.2 w5 hT hp ((hG _ (List.getElem_mem hlt)).1.nw hn) ((hG _ (List.getElem_mem hlt)).2.1.nw hn) hul9 hkd
          refine call hAc ?_
          rintro v w6 ⟨rfl, b6, hp6, hT6, hk6⟩
          obtain ⟨A1, c1, A2, c2, ln, hln, hb1, hR1, hb2, hR2, _, _, _, hB6⟩ := id hT6
          have n6 := Nw.at_ hn hk6 fun k hk => by
            have hk : k = y1 ∨ k = y2 := hk
            omega
          have u0 : w6.cell? ⟨y1, 0, none⟩ = some (.string b6.name) := hb1.cell 0
          have u1 : w6.cell? ⟨y1, 1, none⟩ = some (i64 b6.val) := hb1.cell 1
          have u2 : w6.cell? ⟨y1, 2, none⟩ = some (i64 b6.next) := hb1.cell 2
          have u3 : w6.cell? ⟨y1, 3, none⟩ = some (.slice A1 ln c1) := hb1.cell 3
          have t0 : w6.cell? ⟨y2, 0, none⟩ = some (.string b6.name) := hb2.cell 0
          have t1 : w6.cell? ⟨y2, 1, none⟩ = some (i64 b6.val) := hb2.cell 1
          have t2 : w6.cell? ⟨y2, 2, none⟩ = some (i64 b6.next) := hb2.cell 2
          have t3 : w6.cell? ⟨y2, 3, none⟩ = some (.slice A2 ln c2) := hb2.cell 3
          simp -dsimp [go_sem, u0, u1, u2, u3, t0, t1, t2, t3]
          refine call (rsame_spec _ _ b6 b6 _ _ _ hR1 hR2 (by have := hp6.many; omega) (by have := hp6.many; omega)) ?_
          rintro v w7 ⟨rfl, hk7⟩
          rw [sameB_self]
          simp -dsimp [go_sem, f9, hi1]
          exact ⟨⟨i1, b6, rfl, by omega, hp6, hT6.nw hk7, Kp.nw n6 hk7⟩, by simp [intOf]; omega⟩
      · have hi6' : ¬ (i : Int) < 60 := by omega
        simp -dsimp [go_sem, f9, hlt, hi6, hi6']
        refine call (bxknown_spec _) ?_
        rintro v w9 ⟨rfl, hk9⟩
        simp -dsimp [go_sem]
        exact Kp.nw hn hk9
    · obtain rfl : i = q.length := by omega
      simp -dsimp [go_sem, f9]
      refine call (bxknown_spec _) ?_
      rintro v w9 ⟨rfl, hk9⟩
      simp -dsimp [go_sem]
      exact Kp.nw hn hk9
end Go.Proofs.Ytindfpaahlijeaa
