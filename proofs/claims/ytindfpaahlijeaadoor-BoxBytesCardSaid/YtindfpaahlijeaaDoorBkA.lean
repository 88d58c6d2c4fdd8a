/-
  A box's name told by ours. By the session itself.
-/
import Derived.Test.YtindfpaahlijeaaDoorLay
import Derived.Test.YtindfpaahlijeaaDoorBxQ
import Derived.Test.YtindfpaahlijeaaDoorBxK
import Derived.Shelf.Strings.SlTrimAscii
namespace Go.Proofs.YtindfpaahlijeaaDoor
set_option linter.unusedSimpArgs false
set_option linter.unusedVariables false
set_option maxRecDepth 100000
set_option maxHeartbeats 1000000
open Go.Vc Go.RowKit

theorem bytes_eqq (p q : List UInt8) : ((⟨p.toArray⟩ : ByteArray) == ⟨q.toArray⟩) = decide (p = q) := by
  rw [Bool.eq_iff_iff, MapKept.bytes_beq, decide_eq_true_iff]
  constructor
  · intro h
    injection h with h
    exact List.toArray_inj h
  · rintro rfl; rfl
theorem dw_all (p : UInt8 → Bool) : ∀ l : List UInt8, (∀ x ∈ l.dropWhile p, p x = true) → ∀ x ∈ l, p x = true
  | [], _, x, hx => by cases hx
  | a :: t, h, x, hx => by
    by_cases ha : p a = true
    · rw [List.dropWhile_cons_of_pos ha] at h
      rcases List.mem_cons.1 hx with rfl | hx
      · exact ha
      · exact dw_all p t h x hx
    · rw [List.dropWhile_cons_of_neg ha] at h
      exact h x hx
theorem dw_nil (p : UInt8 → Bool) : ∀ l : List UInt8, l.dropWhile p = [] → ∀ x ∈ l, p x = true := fun l h => dw_all p l fun x hx => by rw [h] at hx; cases hx
theorem dw_of (p : UInt8 → Bool) : ∀ l : List UInt8, (∀ x ∈ l, p x = true) → l.dropWhile p = []
  | [], _ => rfl
  | a :: t, h => by rw [List.dropWhile_cons_of_pos (h a (List.mem_cons_self ..))]; exact dw_of p t fun x hx => h x (List.mem_cons_of_mem _ hx)
theorem trim_nil (l cs : List UInt8) : Lib.trimS l cs = [] ↔ l.all (cs.contains ·) = true := by
  unfold Lib.trimS Lib.trimLeftS Lib.trimRightS
  rw [List.all_eq_true]
  constructor
  · intro h x hx
    have h1 := dw_nil _ _ h
    have h2 := dw_all (cs.contains ·) l.reverse fun x hx => h1 x (List.mem_reverse.2 hx)
    exact h2 x (List.mem_reverse.2 hx)
  · intro h
    have h1 := dw_of (cs.contains ·) l.reverse fun x hx => h x (List.mem_reverse.1 hx)
    rw [h1]
    rfl
def signs : List UInt8 := [97, 98, 99, 100, 101, 102, 103, 104, 105, 106, 107, 108, 109, 110, 111, 112, 113, 114, 115, 116, 117, 118, 119, 120, 121, 122, 48, 49, 50, 51, 52, 53, 54, 55, 56, 57]
theorem signs_ok (c : UInt8) : signs.contains c = okC1 c := by
  have h : ((List.range 256).all fun n => signs.contains (UInt8.ofNat n) == okC1 (UInt8.ofNat n)) = true := by decide +kernel
  have h2 := List.all_eq_true.1 h c.toNat (List.mem_range.2 c.toNat_lt)
  rw [UInt8.ofNat_toNat] at h2
  simpa using h2
theorem trim_spec (s : ByteArray) (w : World) (hl : s.size ≤ 9223372036854775807) :
    Cal Tryd.prog 38 #[.string s, .string ⟨#[97, 98, 99, 100, 101, 102, 103, 104, 105, 106, 107, 108, 109, 110, 111, 112, 113, 114, 115, 116, 117, 118, 119, 120, 121, 122, 48, 49, 50, 51, 52, 53, 54, 55, 56, 57]⟩] w fun v w' => v = .string ⟨(Lib.trimS s.data.toList signs).toArray⟩ ∧ Nw w w' := by
  have h := Go.Proofs.Any.strings_Trim_laid Tryd.trim38 (by kernel_rfl) s ⟨#[97, 98, 99, 100, 101, 102, 103, 104, 105, 106, 107, 108, 109, 110, 111, 112, 113, 114, 115, 116, 117, 118, 119, 120, 121, 122, 48, 49, 50, 51, 52, 53, 54, 55, 56, 57]⟩ w hl (by decide) (Go.Proofs.ascii_of_all (by decide))
  refine Calls.mono h ?_
  rintro e w' ⟨rfl, b1, b2, b3, b4, b5⟩
  exact ⟨_, rfl, rfl, ⟨b1, b2, b3, b4, fun k hk _ => b5 k hk⟩⟩
theorem bname_spec (s : ByteArray) (w : World) (hl : s.size ≤ 9223372036854775807) :
    Cal Tryd.prog 15 #[.string s] w fun v w' => v = .bool (nameOk s) ∧ Nw w w' := by
  have htr := trim_spec s w hl
  have hn : nameOk s = (decide (Lib.trimS s.data.toList signs = []) && decide (1 ≤ s.size) && decide (s.size ≤ 12)) := by
    unfold nameOk
    congr 2
    rw [Bool.eq_iff_iff, decide_eq_true_iff, trim_nil, show (fun c => signs.contains c) = okC1 from funext signs_ok]
  have hsz : s.size = s.data.toList.length := by rw [Array.length_toList]; rfl
  obtain ⟨l, hl'⟩ : ∃ l, l = s.data.toList := ⟨_, rfl⟩
  have hs : s = ⟨l.toArray⟩ := by rw [hl']
  rw [← hl'] at hn hsz htr
  rw [hsz] at hn
  generalize hno : nameOk s = no at *
  rw [hs] at htr ⊢
  clear hs hl' hno
  refine enter Tryd.mixed Tryd.func15 rfl (by kernel_rfl) ?_
  by_cases h0 : l.length = 0
  · have hs : l = [] := List.eq_nil_of_length_eq_zero h0
    subst hs
    simp -dsimp [go_sem]
    exact ⟨by rw [hn]; simp, Kp.refl _ _⟩
  have hne : l.isEmpty = false := by cases l <;> simp_all
  by_cases h12 : l.length ≤ 12
  · have h12' : (l.length : Int) ≤ 12 := by omega
    have hn : no = decide (Lib.trimS l signs = []) := by rw [hn, decide_eq_true h12, decide_eq_true (show 1 ≤ l.length by omega)]; simp
    have hb : ((⟨(Lib.trimS l signs).toArray⟩ : ByteArray) == ⟨#[]⟩) = decide (Lib.trimS l signs = []) := bytes_eqq _ []
    simp -dsimp [go_sem, hne, h12, h12']
    refine call htr ?_
    rintro v w1 ⟨rfl, hk1⟩
    generalize Lib.trimS l signs = r at *
    simp -dsimp [go_sem]
    exact ⟨by rw [hn]; cases r <;> simp, hk1⟩
  · have h12' : ¬ (l.length : Int) ≤ 12 := by omega
    have hn : no = false := by rw [hn, decide_eq_false h12, Bool.and_false]
    simp -dsimp [go_sem, hne, h12, h12']
    exact ⟨hn, Kp.refl _ _⟩
end Go.Proofs.YtindfpaahlijeaaDoor
