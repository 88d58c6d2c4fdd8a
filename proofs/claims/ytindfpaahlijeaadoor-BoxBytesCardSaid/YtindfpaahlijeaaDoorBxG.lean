/-
  The reference's in, Name, Is; the laws' large. By the session itself.
-/
import Derived.Test.YtindfpaahlijeaaDoorBxE
import Derived.Lib.TrimByte
namespace Go.Proofs.YtindfpaahlijeaaDoor
set_option linter.unusedSimpArgs false
set_option linter.unusedVariables false
set_option maxRecDepth 100000
set_option maxHeartbeats 2000000
open Go.Vc Go.RowKit

theorem rin_spec (n lo hi : Int) (w : World) : Cal Tryd.prog 17 #[i64 n, i64 lo, i64 hi] w fun v w' => v = .bool (okF n lo hi) ∧ w' = w := by
  refine enter Tryd.mixed Tryd.func17 rfl (by kernel_rfl) ?_
  by_cases h1 : lo ≤ n
  · simp -dsimp [go_sem, h1, okF]
  · simp -dsimp [go_sem, h1, okF]
def okC1 (c : UInt8) : Bool := !((decide (c.toNat < 97) || decide (122 < c.toNat)) && (decide (c.toNat < 48) || decide (57 < c.toNat)))
def nameOk (s : ByteArray) : Bool := s.data.toList.all okC1 && decide (1 ≤ s.size) && decide (s.size ≤ 12)
theorem rname_spec (s : ByteArray) (w : World) (hl : s.size ≤ 9223372036854775807) : Cal Tryd.prog 16 #[.string s] w fun v w' => v = .bool (nameOk s) ∧ w' = w := by
  refine enter Tryd.mixed Tryd.func16 rfl (by kernel_rfl) ?_
  simp -dsimp [go_sem]
  refine loop [2, 3, 4, 5, 6, 7, 8, 9, 10, 11, 12, 13, 14, 15, 16, 17, 18, 19, 20, 21, 22, 23, 24, 25, 26, 27, 28, 29, 30, 31] (by kernel_rfl)
    (fun f w' => Box1 (fun a w' => ∃ i : Nat, a = i64 i ∧ i ≤ s.size ∧ (s.data.toList.take i).all okC1 = true ∧ w' = w) (f 3) w') (fun f _ => s.size - (intOf (f 3)).toNat) ⟨0, rfl, by omega, by simp, rfl⟩ ?_
  rintro f w' ⟨i, f3, hi, hall, rfl⟩
  have hsl : s.data.toList.length = s.size := by rw [Array.length_toList]; rfl
  by_cases hlt : i < s.size
  · have hlt' : (i : Int) < (s.size : Int) := by omega
    have hil : i < s.data.toList.length := by omega
    have hi1 : IntKind.i64.wrap ((i : Int) + 1) = ((i + 1 : Nat) : Int) := by rw [w64 (by omega) (by omega)]; omega
    have htk : s.data.toList.take (i + 1) = s.data.toList.take i ++ [s.data.toList[i]] := List.take_succ_eq_append_getElem hil
    obtain ⟨i1, hi1'⟩ : ∃ i1, i1 = i + 1 := ⟨_, rfl⟩
    rw [← hi1'] at hi1 htk
    have hget : ∀ h, s[i]'h = s.data.toList[i] := fun h => by show s.data[i] = _; rw [Array.getElem_toList]
    have hfail : okC1 s.data.toList[i] = false → nameOk s = false := fun h => by
      unfold nameOk
      rw [List.all_eq_false.2 ⟨_, List.getElem_mem hil, by simpa using h⟩]
      rfl
    obtain ⟨ch, hch⟩ : ∃ ch, ch = s.data.toList[i] := ⟨_, rfl⟩
    rw [← hch] at htk hfail
    have hget' : ∀ h, s[i]'h = ch := fun h => by rw [hget, hch]
    have hgo : okC1 ch = true → (s.data.toList.take i1).all okC1 = true := fun h => by rw [htk, List.all_append, hall]; simp [h]
    have hcl := UInt8.toNat_lt ch
    by_cases c1 : ch.toNat < 97
    · have c1' : (ch.toNat : Int) < 97 := by omega
      by_cases c3 : ch.toNat < 48
      · have c3' : (ch.toNat : Int) < 48 := by omega
        have hf := hfail (by simp [okC1, c1, c3])
        simp -dsimp [go_sem, f3, hlt, hlt', hget', c1', c3', hf]
      · have c3' : ¬ (ch.toNat : Int) < 48 := by omega
        by_cases c4 : 57 < ch.toNat
        · have c4' : 57 < (ch.toNat : Int) := by omega
          have hf := hfail (by simp [okC1, c1, c3, c4])
          simp -dsimp [go_sem, f3, hlt, hlt', hget', c1', c3', c4', hf]
        · have c4' : ¬ 57 < (ch.toNat : Int) := by omega
          have hg := hgo (by simp [okC1, c1, c3, c4])
          simp -dsimp [go_sem, f3, hlt, hlt', hget', c1', c3', c4', hi1]
          exact ⟨⟨i1, rfl, by omega, hg, rfl⟩, by simp [intOf]; omega⟩
    · have c1' : ¬ (ch.toNat : Int) < 97 := by omega
      by_cases c2 : 122 < ch.toNat
      · have c2' : 122 < (ch.toNat : Int) := by omega
        have c3' : ¬ (ch.toNat : Int) < 48 := by omega
        have c4' : 57 < (ch.toNat : Int) := by omega
        have hf := hfail (by simp [okC1, c2]; omega)
        simp -dsimp [go_sem, f3, hlt, hlt', hget', c1', c2', c3', c4', hf]
      · have c2' : ¬ 122 < (ch.toNat : Int) := by omega
        have hg := hgo (by simp [okC1, c1, c2])
        simp -dsimp [go_sem, f3, hlt, hlt', hget', c1', c2', hi1]
        exact ⟨⟨i1, rfl, by omega, hg, rfl⟩, by simp [intOf]; omega⟩
  · obtain rfl : i = s.size := by omega
    have hall' : s.data.toList.all okC1 = true := by rw [List.take_of_length_le (by omega)] at hall; exact hall
    by_cases hz : 1 ≤ s.size
    · have hz' : (1 : Int) ≤ (s.size : Int) := by omega
      simp -dsimp [go_sem, f3, hz, hz', nameOk, hall']
      omega
    · have hz' : ¬ (1 : Int) ≤ (s.size : Int) := by omega
      simp -dsimp [go_sem, f3, hz, hz', nameOk, hall']

def msgsOk : Int → Int → List Msg → Bool
  | _, _, [] => true
  | last, next, m :: l => decide (last < m.uid) && decide (m.uid < next) && okF m.flags 0 31 && okF m.date 0 1073741824 && decide (m.body.length ≤ 1200) && msgsOk m.uid next l
def isB (b : Bx) : Bool := decide (b.L.length ≤ 24) && msgsOk 0 b.next b.L && nameOk b.name && okF b.val 1 1048576 && okF b.next 1 1048576
def lastU (l : List Msg) : Int := (l.getLast?.map (·.uid)).getD 0
theorem msgsOk_app : ∀ (last next : Int) (l r : List Msg), msgsOk last next (l ++ r) = (msgsOk last next l && msgsOk (((l.getLast?.map (·.uid)).getD last)) next r)
  | last, next, [], r => by simp [msgsOk]
  | last, next, m :: l, r => by
    simp only [List.cons_append, msgsOk, msgsOk_app m.uid next l r, Bool.and_assoc]
    congr 6
    cases l with
    | nil => rfl
    | cons x l => rw [List.getLast?_cons_cons]; cases h : (x :: l).getLast? <;> simp_all
theorem ris_spec (v : Value) (b : Bx) (S : Nat → Prop) (w : World) (h : RB w v b S) (hn : b.name.size ≤ 9223372036854775807) (hll : b.L.length ≤ 9223372036854775807) :
    Cal Tryd.prog 6 #[v] w fun v' w' => v' = .bool (isB b) ∧ Nw w w' := by
  obtain ⟨A, c, q, rfl, hq, hc, hr, ho, hb⟩ := h
  have hql : q.length = b.L.length := by rw [← hq, List.length_map]
  refine enter Tryd.mixed Tryd.func6 rfl (by kernel_rfl) ?_
  have k0 : Nw w (w.alloc (.cells #[.string b.name, i64 b.val, i64 b.next, .slice A b.L.length c] 24)) := (Kp.refl _ _).alloc _
  have hb0 : Blk (w.alloc (.cells #[.string b.name, i64 b.val, i64 b.next, .slice A b.L.length c] 24)) w.heap.size 24 #[.string b.name, i64 b.val, i64 b.next, .slice A b.L.length c] := Blk.new _ _ _
  obtain ⟨x, hx⟩ : ∃ x, x = w.heap.size := ⟨_, rfl⟩
  simp -dsimp [go_sem]
  rw [← hx] at hb0 ⊢
  generalize w.alloc (.cells #[.string b.name, i64 b.val, i64 b.next, .slice A b.L.length c] 24) = wa at *
  refine loop [2, 3, 4, 5, 6, 7, 8, 9, 10, 11, 12, 13, 14, 15, 16, 17, 18, 19, 20, 21, 22, 23, 24, 25, 26, 27, 28, 29, 30, 31, 32, 33, 34, 35, 36, 37, 38, 39, 40, 41, 42, 43, 44, 45, 46, 47, 48, 49, 50, 51, 52, 53, 54] (by kernel_rfl)
    (fun f w' => Box2 (fun a l w' => ∃ i : Nat, a = i64 i ∧ i ≤ b.L.length ∧ (0 < i → b.L.length ≤ 24) ∧ msgsOk 0 b.next (b.L.take i) = true ∧ l = i64 (lastU (b.L.take i)) ∧ Nw wa w') (f 4) (f 3) w') (fun f _ => b.L.length - (intOf (f 4)).toNat)
    ⟨0, rfl, by omega, (fun h => by omega), rfl, rfl, Kp.refl _ _⟩ ?_
  rintro f w' ⟨i, f4, hi, h24, hok, f3, hK⟩
  have c0 := (hb0.nw hK).cell 0
  have c1 := (hb0.nw hK).cell 1
  have c2 := (hb0.nw hK).cell 2
  have c3 := (hb0.nw hK).cell 3
  by_cases hgo : i < b.L.length ∧ b.L.length ≤ 24
  · obtain ⟨hlt, hle⟩ := hgo
    have hle' : (b.L.length : Int) ≤ 24 := by omega
    have hi1 : IntKind.i64.wrap ((i : Int) + 1) = ((i + 1 : Nat) : Int) := by rw [w64 (by omega) (by omega)]; omega
    obtain ⟨i1, hi1'⟩ : ∃ i1, i1 = i + 1 := ⟨_, rfl⟩
    have htk : b.L.take i1 = b.L.take i ++ [b.L[i]] := by rw [hi1']; exact List.take_succ_eq_append_getElem hlt
    rw [← hi1'] at hi1
    have hltq : i < q.length := by omega
    obtain ⟨g, o, rfl, e0, e1, e2, e3⟩ := msg_at ((hr.nw k0).nw hK) hltq
    have hqi : q[i].1 = b.L[i] := by simp only [← hq, List.getElem_map]
    have hbq := hb _ (List.getElem_mem hltq)
    rw [hqi] at e0 e1 e2 hbq
    have hnext : msgsOk 0 b.next (b.L.take i1) = msgsOk (lastU (b.L.take i)) b.next [b.L[i]] := by rw [htk, msgsOk_app, hok]; rfl
    have hfail : msgsOk (lastU (b.L.take i)) b.next [b.L[i]] = false → isB b = false := fun h => by
      have h2 : b.L = b.L.take i1 ++ b.L.drop i1 := (List.take_append_drop i1 b.L).symm
      have h3 : msgsOk 0 b.next b.L = false := by
        conv => lhs; rw [h2]
        rw [msgsOk_app, hnext, h]; rfl
      unfold isB; rw [h3]; simp
    have hlast : lastU (b.L.take i1) = b.L[i].uid := by unfold lastU; rw [htk, List.getLast?_concat]; rfl
    generalize lastU (b.L.take i) = last at *
    generalize b.L[i] = m at *
    generalize q[i].2 = mv at *
    obtain ⟨Bm, dm, rfl, hrm, hom, hdm⟩ := hbq
    have ka : Nw w' (w'.alloc (.cells #[i64 m.uid, i64 m.flags, i64 m.date, .slice Bm m.body.length dm] 41)) := (Kp.refl _ _).alloc _
    have hq4 : Blk (w'.alloc (.cells #[i64 m.uid, i64 m.flags, i64 m.date, .slice Bm m.body.length dm] 41)) w'.heap.size 41 #[i64 m.uid, i64 m.flags, i64 m.date, .slice Bm m.body.length dm] := Blk.new _ _ _
    have y0 := hq4.cell 0
    have y1 := hq4.cell 1
    have y2 := hq4.cell 2
    have y3 := hq4.cell 3
    have c2a := ((hb0.nw hK).nw ka).cell 2
    have hKa := hK.nw ka
    have hone : msgsOk last b.next [m] = (decide (last < m.uid) && decide (m.uid < b.next) && okF m.flags 0 31 && okF m.date 0 1073741824 && decide (m.body.length ≤ 1200)) := by simp [msgsOk]
    rw [hone] at hnext hfail
    obtain ⟨z, hz⟩ : ∃ z, z = w'.heap.size := ⟨_, rfl⟩
    rw [← hz] at hq4 y0 y1 y2 y3
    by_cases g1 : m.uid ≤ last
    · have hf := hfail (by simp; omega)
      simp -dsimp [go_sem, f4, f3, c3, hlt, hle, hle', e0, e1, e2, e3, y0, g1, hf]
      exact k0.nw hKa
    · by_cases g2 : b.next ≤ m.uid
      · have hf := hfail (by simp; omega)
        simp -dsimp [go_sem, f4, f3, c3, hlt, hle, hle', e0, e1, e2, e3, y0, g1, g2, c2, c2a, hf]
        exact k0.nw hKa
      · simp -dsimp [go_sem, f4, f3, c3, hlt, hle, hle', e0, e1, e2, e3, y0, y1, g1, g2, c2, c2a]
        rw [← hz]
        generalize w'.alloc (.cells #[i64 m.uid, i64 m.flags, i64 m.date, .slice Bm m.body.length dm] 41) = w4 at *
        refine call (rin_spec m.flags 0 31 w4) ?_
        rintro v5 w5 ⟨rfl, rfl⟩
        cases hfl : okF m.flags 0 31 with
        | false =>
          have hf := hfail (by rw [hfl]; simp)
          simp -dsimp [go_sem, hf]
          exact k0.nw hKa
        | true =>
          simp -dsimp [go_sem, y2]
          refine call (rin_spec m.date 0 1073741824 _) ?_
          rintro v6 w6 ⟨rfl, rfl⟩
          cases hdl : okF m.date 0 1073741824 with
          | false =>
            have hf := hfail (by rw [hdl]; simp)
            simp -dsimp [go_sem, hf]
            exact k0.nw hKa
          | true =>
            by_cases g5 : 1200 < m.body.length
            · have g5' : (1200 : Int) < (m.body.length : Int) := by omega
              have hf := hfail (by simp; omega)
              simp -dsimp [go_sem, y3, g5, g5', hf]
              exact k0.nw hKa
            · have g5' : ¬ (1200 : Int) < (m.body.length : Int) := by omega
              simp -dsimp [go_sem, y0, y3, g5, g5', f4, hi1]
              refine ⟨⟨i1, rfl, by omega, fun _ => hle, ?_, by rw [hlast], hKa⟩, by simp [intOf]; omega⟩
              rw [hnext, hfl, hdl]; simp; omega
  · have hgo' : ¬ (i < b.L.length) ∨ (i < b.L.length ∧ ¬ b.L.length ≤ 24) := by omega
    rcases hgo' with hge | ⟨hlt, hgt⟩
    · have hii : b.L.take i = b.L := List.take_of_length_le (by omega)
      rw [hii] at hok
      simp -dsimp [go_sem, f4, c3, hge, c0]
      refine call (rname_spec b.name _ hn) ?_
      rintro v5 w5 ⟨rfl, rfl⟩
      cases hnm : nameOk b.name with
      | false =>
        simp -dsimp [go_sem, isB, hnm]
        exact k0.nw hK
      | true =>
        simp -dsimp [go_sem, c1]
        refine call (rin_spec b.val 1 1048576 _) ?_
        rintro v6 w6 ⟨rfl, rfl⟩
        cases hvl : okF b.val 1 1048576 with
        | false =>
          simp -dsimp [go_sem, isB, hvl]
          exact k0.nw hK
        | true =>
          simp -dsimp [go_sem, c2]
          refine call (rin_spec b.next 1 1048576 _) ?_
          rintro v7 w7 ⟨rfl, rfl⟩
          cases hnx : okF b.next 1 1048576 with
          | false =>
            simp -dsimp [go_sem, isB, hnx]
            exact k0.nw hK
          | true =>
            simp -dsimp [go_sem, c3, isB, hnm, hvl, hnx, hok]
            exact ⟨by omega, k0.nw hK⟩
    · have hgt' : ¬ (b.L.length : Int) ≤ 24 := by omega
      simp -dsimp [go_sem, f4, c3, hlt, hgt, hgt', c0]
      refine call (rname_spec b.name _ hn) ?_
      rintro v5 w5 ⟨rfl, rfl⟩
      cases hnm : nameOk b.name with
      | false =>
        simp -dsimp [go_sem, isB, hnm]
        exact k0.nw hK
      | true =>
        simp -dsimp [go_sem, c1]
        refine call (rin_spec b.val 1 1048576 _) ?_
        rintro v6 w6 ⟨rfl, rfl⟩
        cases hvl : okF b.val 1 1048576 with
        | false =>
          simp -dsimp [go_sem, isB, hvl]
          exact k0.nw hK
        | true =>
          simp -dsimp [go_sem, c2]
          refine call (rin_spec b.next 1 1048576 _) ?_
          rintro v7 w7 ⟨rfl, rfl⟩
          cases hnx : okF b.next 1 1048576 with
          | false =>
            simp -dsimp [go_sem, isB, hnx]
            exact k0.nw hK
          | true =>
            simp -dsimp [go_sem, c3, isB, hnm, hvl, hnx, hgt, hgt']
            exact k0.nw hK
end Go.Proofs.YtindfpaahlijeaaDoor
