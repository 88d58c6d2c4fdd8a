/-
  BoxBack walked: a box that may be is read as it was. By the session itself.
-/
import Derived.Test.YtindfpaahlijeaaDoorBkE
import Derived.Test.YtindfpaahlijeaaDoorOctPn
namespace Go.Proofs.YtindfpaahlijeaaDoor
set_option linter.unusedSimpArgs false
set_option linter.unusedVariables false
set_option maxRecDepth 100000
set_option maxHeartbeats 2000000
open Go.Vc Go.RowKit

theorem clamp_of {v : Int} (h0 : 0 ≤ v) (h1 : v ≤ 4611686018427387904) : (clampN v : Int) = v := by unfold clampN; omega
theorem msgL_enc (m : Msg) (rest : List UInt8) (h1 : 0 ≤ m.uid ∧ m.uid ≤ 4611686018427387904) (h2 : 0 ≤ m.flags ∧ m.flags ≤ 4611686018427387904) (h3 : 0 ≤ m.date ∧ m.date ≤ 4611686018427387904) (h4 : m.body.length ≤ 4611686018427387904) : msgL (encM m ++ rest) false = (m, rest, false) := by
  have e : encM m ++ rest = numB (clampN m.uid) ++ (numB (clampN m.flags) ++ (numB (clampN m.date) ++ (rowB m.body ++ rest))) := by simp [encM, numsB]
  have e1 : numL (encM m ++ rest) false = (clampN m.uid, numB (clampN m.flags) ++ (numB (clampN m.date) ++ (rowB m.body ++ rest)), false) := by rw [e]; exact numL_numB _ _ _ (clampN_le _)
  have e2 : nm2 (encM m ++ rest) false = (clampN m.flags, numB (clampN m.date) ++ (rowB m.body ++ rest), false) := by unfold nm2; rw [e1]; exact numL_numB _ _ _ (clampN_le _)
  have e3 : nm3 (encM m ++ rest) false = (clampN m.date, rowB m.body ++ rest, false) := by unfold nm3; rw [e2]; exact numL_numB _ _ _ (clampN_le _)
  have e4 : bytL (rowB m.body ++ rest) false = (m.body, rest, false) := bytL_rowB _ _ h4
  unfold msgL
  rw [e1, e2, e3]
  simp only [e4, clamp_of h1.1 h1.2, clamp_of h2.1 h2.2, clamp_of h3.1 h3.2]
theorem bxL_enc : ∀ (L : List Msg) (acc : List Msg) (rest : List UInt8), (∀ m ∈ L, (0 ≤ m.uid ∧ m.uid ≤ 4611686018427387904) ∧ (0 ≤ m.flags ∧ m.flags ≤ 4611686018427387904) ∧ (0 ≤ m.date ∧ m.date ≤ 4611686018427387904) ∧ m.body.length ≤ 4611686018427387904) → bxL L.length (L.flatMap encM ++ rest) false acc = (acc ++ L, rest, false)
  | [], acc, rest, _ => by simp [bxL]
  | m :: L, acc, rest, h => by
    obtain ⟨h1, h2, h3, h4⟩ := h m (List.mem_cons_self ..)
    rw [List.flatMap_cons, List.append_assoc, List.length_cons]
    simp only [bxL]
    rw [if_neg (by decide), msgL_enc m _ h1 h2 h3 h4]
    have := bxL_enc L (acc ++ [m]) rest fun x hx => h x (List.mem_cons_of_mem _ hx)
    rw [this]
    simp
theorem read_enc {b : Bx} (h : isB b = true) : bxRead (encX b) = (b, [], false) := by
  have hI := IsB.of h
  have hnm : b.name.size ≤ 12 := by
    simp only [isB, Bool.and_eq_true] at h
    have := h.1.1.2
    unfold nameOk at this
    simp only [Bool.and_eq_true, decide_eq_true_eq] at this
    exact this.2
  have hnl : b.name.data.toList.length ≤ 4611686018427387904 := by rw [Array.length_toList]; exact Nat.le_trans hnm (by decide)
  obtain ⟨R, hR⟩ : ∃ R, R = b.L.flatMap encM := ⟨_, rfl⟩
  have e : encX b = rowB b.name.data.toList ++ (numB (clampN b.val) ++ (numB (clampN b.next) ++ (numB (clampN (b.L.length : Int)) ++ R))) := by simp [encX, numsB, hR]
  have hb : bytL (encX b) false = (b.name.data.toList, numB (clampN b.val) ++ (numB (clampN b.next) ++ (numB (clampN (b.L.length : Int)) ++ R)), false) := by rw [e]; exact bytL_rowB _ _ hnl
  have e1 : numL (numB (clampN b.val) ++ (numB (clampN b.next) ++ (numB (clampN (b.L.length : Int)) ++ R))) false = (clampN b.val, numB (clampN b.next) ++ (numB (clampN (b.L.length : Int)) ++ R), false) := numL_numB _ _ _ (clampN_le _)
  have e2 : nm2 (numB (clampN b.val) ++ (numB (clampN b.next) ++ (numB (clampN (b.L.length : Int)) ++ R))) false = (clampN b.next, numB (clampN (b.L.length : Int)) ++ R, false) := by unfold nm2; rw [e1]; exact numL_numB _ _ _ (clampN_le _)
  have e3 : nm3 (numB (clampN b.val) ++ (numB (clampN b.next) ++ (numB (clampN (b.L.length : Int)) ++ R))) false = (clampN (b.L.length : Int), R, false) := by unfold nm3; rw [e2]; exact numL_numB _ _ _ (clampN_le _)
  have hlen : clampN (b.L.length : Int) = b.L.length := by have := hI.len; unfold clampN; omega
  have hL := bxL_enc b.L [] [] fun m hm => by
    obtain ⟨h1, h2, h3, h4, h5⟩ := hI.all m hm
    have := hI.next
    simp only [okF, Bool.and_eq_true, decide_eq_true_eq] at h3 h4
    exact ⟨⟨by omega, by omega⟩, ⟨by omega, by omega⟩, ⟨by omega, by omega⟩, by omega⟩
  rw [List.append_nil, ← hR, List.nil_append] at hL
  unfold bxRead
  rw [hb]
  simp only
  rw [e1, e2, e3, hlen]
  simp only [hL]
  rw [clamp_of (by have := hI.val; omega) (by have := hI.val; omega), clamp_of (by have := hI.next; omega) (by have := hI.next; omega)]
theorem ok_enc {b : Bx} (h : isB b = true) : bxOk (encX b) = true := by
  unfold bxOk
  rw [read_enc h]
  simp [h]
theorem encX_len {b : Bx} (h : isB b = true) : (encX b).length ≤ 100000 := by
  have hI := IsB.of h
  have hnm : b.name.size ≤ 12 := by
    simp only [isB, Bool.and_eq_true] at h
    have := h.1.1.2
    unfold nameOk at this
    simp only [Bool.and_eq_true, decide_eq_true_eq] at this
    exact this.2
  have hnl : b.name.data.toList.length ≤ 12 := by rw [Array.length_toList]; exact hnm
  have h1 := rowB_lenq (l := b.name.data.toList) (by omega)
  have h2 := numsB_len [b.val, b.next, (b.L.length : Int)]
  have h3 := encMs_len b.L fun m hm => (hI.all m hm).2.2.2.2
  have h4 := hI.len
  simp only [List.length_cons, List.length_nil] at h2
  unfold encX
  rw [List.length_append, List.length_append]
  omega
theorem back_law (v : Value) (b : Bx) (w : World) (h : RB w v b (fun _ => False)) (hn : b.name.size ≤ 9223372036854775807) (hll : b.L.length ≤ 9223372036854775807) :
    Cal Tryd.prog 3 #[v] w fun v' w' => v' = .bool true ∧ Nw w w' := by
  have hRB := h
  obtain ⟨A, c, q, rfl, hq, hc, hr, ho, hb⟩ := h
  refine enter Tryd.mixed Tryd.func3 rfl (by kernel_rfl) ?_
  have k0 : Nw w (w.alloc (.cells #[.string b.name, i64 b.val, i64 b.next, .slice A b.L.length c] 24)) := (Kp.refl _ _).alloc _
  have hb0 : Blk (w.alloc (.cells #[.string b.name, i64 b.val, i64 b.next, .slice A b.L.length c] 24)) w.heap.size 24 #[.string b.name, i64 b.val, i64 b.next, .slice A b.L.length c] := Blk.new _ _ _
  obtain ⟨x, hx⟩ : ∃ x, x = w.heap.size := ⟨_, rfl⟩
  simp -dsimp [go_sem]
  rw [← hx] at hb0 ⊢
  generalize w.alloc (.cells #[.string b.name, i64 b.val, i64 b.next, .slice A b.L.length c] 24) = wa at *
  refine call (large_spec _ b (fun _ => False) wa (hRB.nw k0) hll) ?_
  rintro v w1 ⟨⟨r, rfl⟩, hk1⟩
  have n1 := k0.nw hk1
  cases r with
  | true =>
    simp -dsimp [go_sem]
    exact n1
  | false =>
    have x1 := hb0.nw hk1
    have x10 := x1.cell 0
    have x11 := x1.cell 1
    have x12 := x1.cell 2
    have x13 := x1.cell 3
    simp -dsimp [go_sem, x10, x11, x12, x13]
    refine call (ris_spec _ b (fun _ => False) w1 (hRB.nw n1) hn hll) ?_
    rintro v w2 ⟨rfl, hk2⟩
    have n2 := n1.nw hk2
    cases hib : isB b with
    | false =>
      simp -dsimp [go_sem]
      exact n2
    | true =>
      have x2 := x1.nw hk2
      have x20 := x2.cell 0
      have x21 := x2.cell 1
      have x22 := x2.cell 2
      have x23 := x2.cell 3
      simp -dsimp [go_sem, x20, x21, x22, x23]
      refine call (bencode_spec _ b w2 (hRB.nw n2) hn hll) ?_
      rintro v w3 ⟨hE, hk3⟩
      have n3 := n2.nw hk3
      rcases hE with ⟨_, u, rfl, hB⟩ | ⟨hno, _⟩
      · obtain ⟨X, xc, rfl, hoX, hX⟩ := id hB
        simp -dsimp [go_sem]
        refine call (bdecode_spec (encX b) X xc w3 hoX.rd (by have := encX_len hib; omega)) ?_
        rintro v w4 ⟨hD, hk4⟩
        have n4 := n3.nw hk4
        rcases hD with ⟨_, u, rfl, hO⟩ | ⟨hno, _⟩
        · rw [read_enc hib] at hO
          obtain ⟨vL, rfl, hOL⟩ := id hO
          obtain ⟨q5, A5, d5, rfl, hq5, ho5, hA5, hd5⟩ := id hOL
          have ka : Nw w4 (w4.alloc (.cells #[.string b.name, i64 b.val, i64 b.next, .slice A5 b.L.length d5] 24)) := (Kp.refl _ _).alloc _
          have x5 := ((x2.nw hk3).nw hk4).nw ka
          have x50 := x5.cell 0
          have x51 := x5.cell 1
          have x52 := x5.cell 2
          have x53 := x5.cell 3
          simp -dsimp [go_sem, x50, x51, x52, x53]
          refine call (rsame_spec _ _ b b (fun _ => False) _ _ (hRB.nw (n4.nw ka)) ((hO.nw ka).rb) (by have := IsB.of hib; have := this.len; omega) (by have := IsB.of hib; have := this.len; omega)) ?_
          rintro v w5 ⟨rfl, hk5⟩
          rw [sameB_self]
          simp -dsimp [go_sem]
          refine call (bxknown_spec w5) ?_
          rintro v w6 ⟨rfl, hk6⟩
          simp -dsimp [go_sem]
          exact ((n4.nw ka).nw hk5).nw hk6
        · rw [ok_enc hib] at hno; cases hno
      · rw [hib] at hno; cases hno
end Go.Proofs.YtindfpaahlijeaaDoor
