/-
  FrameSees walked: a record of which one byte is another one is refused. By the session itself.
-/
import Derived.Test.YtdhgfljpnjneeaaFrmH
namespace Go.Proofs.Ytdhgfljpnjneeaa
set_option linter.unusedSimpArgs false
set_option linter.unusedVariables false
open Go.Vc Go.RowKit

theorem recL_len (p : List UInt8) : (recL p).length = p.length + 12 := by
  simp only [recL, List.length_append, headL_len, fourL_len]; omega
theorem decL_all (b : List UInt8) (h : (decL b).2.2 ≠ 0) : ∃ e, e ≠ 0 ∧ decL b = ([], 0, e) := by
  obtain ⟨h1, h2⟩ := dec_err b h
  exact ⟨(decL b).2.2, h, by rw [← h1, ← h2]⟩

theorem sees_law (p more : List UInt8) (a : Int) (by_ : Nat) (A B : Option Addr) (c d : Nat) (w : World) (hp : Rd w A (p.map u8)) (hc : p.length ≤ c) (hm : Rd w B (more.map u8)) (hd : more.length ≤ d) (hby : by_ < 256)
    (hz : p.length ≤ 140737488351232) (hz2 : more.length ≤ 140737488351232) :
    Cal Try.prog 3 #[.slice A p.length c, .slice B more.length d, i64 a, .int .u8 by_] w fun v w' => v = .bool true ∧ Nw w w' := by
  refine enter Try.mixed Try.func3 rfl (by kernel_rfl) ?_
  have hs : IntKind.i64.wrap ((p.length : Int) + (more.length : Int)) = ((p.length + more.length : Nat) : Int) := w64 (by omega) (by omega)
  obtain ⟨s, hs'⟩ : ∃ s, s = p.length + more.length := ⟨_, rfl⟩
  rw [← hs'] at hs
  by_cases h4 : 4000 < s
  · have h4' : (4000 : Int) < (s : Int) := by omega
    simp -dsimp [go_sem, hs, h4, h4']
    exact Kp.refl _ _
  · have h4' : ¬ (4000 : Int) < (s : Int) := by omega
    by_cases h0 : by_ = 0
    · have h0' : ((by_ : Int) == 0) = true := by simp; omega
      simp -dsimp [go_sem, hs, h4, h4', h0']
      exact Kp.refl _ _
    · have h0' : ((by_ : Int) == 0) = false := by simp; omega
      simp -dsimp [go_sem, hs, h4, h4', h0']
      have ka : Nw w (w.alloc (.cells #[.slice A p.length c] 22)) := (Kp.refl _ _).alloc _
      refine call (encode_spec [p] _ 1 _ (fun _ => False) (Brs.one (p := p) (d := c) (Blk.fresh rfl) (fun h => h) (hp.nw ka) (fun _ _ h => h) hc) (by simp) (by simp) (by simp; omega)) ?_
      have hfl : ([p] : List (List UInt8)).flatten = p := by simp
      rw [hfl]
      rintro v w1 ⟨hk1, h | ⟨_, u, rfl, hB⟩⟩
      · omega
      · have k1 := ka.nw hk1
        have hrl := recL_len p
        have hflip := dec_flip (recL p) p more rfl (by omega)
        obtain ⟨R, hR⟩ : ∃ R, R = recL p := ⟨_, rfl⟩
        rw [← hR] at hB hrl hflip
        obtain ⟨A1, c1, rfl, ho1, hA1⟩ := hB
        have hRn : ((R.length : Int) == 0) = false := by rw [beq_eq_false_iff_ne]; omega
        have hRn' : ¬ R.length = 0 := by omega
        simp -dsimp [go_sem, hRn, hRn']
        have kb := k1.alloc (.cells #[] 5)
        refine bs_app (m := R) (l := []) (B := w.heap.size) (Gs.made w1 5 1 0 #[] rfl rfl rfl (by simp [maxLen]) k1.size) (ho1.rd.nw ((Kp.refl _ _).alloc _)) (by simp; omega) (Nw.kp kb (fun _ => False)).size ?_
        intro v2 w2 hB2 hk2
        rw [List.nil_append] at hB2
        have k2 := Nw.fr kb hk2 (Nat.le_refl _)
        obtain ⟨A2, c2, rfl, ho2, hA2⟩ := hB2
        have hand := i64_and30 a
        have h1 : 0 < R.length := by omega
        have hrem : (a % 1073741824).tmod (R.length : Int) = (((a % 1073741824).toNat % R.length : Nat) : Int) := by
          have e : a % 1073741824 = ((a % 1073741824).toNat : Int) := by omega
          rw [Int.tmod_eq_emod_of_nonneg (by omega)]
          generalize (a % 1073741824).toNat = n at e ⊢
          rw [e]
          rfl
        have hjl : (a % 1073741824).toNat % R.length < R.length := Nat.mod_lt _ h1
        obtain ⟨j, hj⟩ : ∃ j, j = (a % 1073741824).toNat % R.length := ⟨_, rfl⟩
        rw [← hj] at hrem hjl
        have hjl' : (j : Int) < (R.length : Int) := by omega
        obtain ⟨g, rfl⟩ := ho2.some h1
        obtain ⟨b, o, e, hcj⟩ := ho2.rd.at_ (j := j) (by simpa using hjl)
        cases e
        rw [Nat.zero_add, List.getElem_map] at hcj
        have hfj := ho2.frozen j
        have hx8 := UInt8.toNat_lt R[j]
        have hxor : bits .xor .u8 (R[j].toNat : Int) (by_ : Int) = ((R[j].toNat ^^^ by_ : Nat) : Int) := u8_xor_nat _ _ (by omega) (by omega)
        have hxl : R[j].toNat ^^^ by_ < 256 := Nat.xor_lt_two_pow (n := 8) (by omega) (by omega)
        have hxne : R[j].toNat ^^^ by_ ≠ R[j].toNat := fun e => by
          have := congrArg (R[j].toNat ^^^ ·) e
          simp only [← Nat.xor_assoc, Nat.xor_self, Nat.zero_xor] at this
          exact h0 this
        obtain ⟨x, hx⟩ : ∃ x, x = R[j].toNat ^^^ by_ := ⟨_, rfl⟩
        rw [← hx] at hxor hxl hxne
        simp -dsimp [go_sem, hand, hrem, hjl, hcj, hfj, hRn', hxor]
        have ho3 := ho2.set j (.int .u8 (x : Int))
        rw [← byteOf x hxl, ← List.map_set] at ho3
        have hfl := hflip j hjl (UInt8.ofNat x) (fun e => hxne (by rw [← e]; simp; omega))
        obtain ⟨R', hR'⟩ : ∃ R', R' = R.set j (UInt8.ofNat x) := ⟨_, rfl⟩
        have hll : R'.length = R.length := by rw [hR', List.length_set]
        rw [← hR', byteOf x hxl, ← hll] at ho3
        rw [← hR'] at hfl
        have k3 : Nw w (w2.setCell ⟨g, j, none⟩ (.int .u8 (x : Int))) := k2.setCell _ _ (.inl (show w.heap.size ≤ g from hA2 ⟨g, 0, none⟩ rfl))
        have hmr := hm.nw k3
        generalize w2.setCell ⟨g, j, none⟩ (.int .u8 (x : Int)) = w3 at *
        refine bs_app (m := more) (l := R') (B := w.heap.size) ⟨_, c2, by rw [hll], ho3, hA2⟩ hmr (by omega) (Nw.kp k3 (fun _ => False)).size ?_
        intro v4 w4 hB4 hk4
        have k4 := Nw.fr k3 hk4 (Nat.le_refl _)
        obtain ⟨e, he, hall⟩ := decL_all _ hfl
        have hbl : (R' ++ more).length ≤ 140737488355328 := by rw [List.length_append]; omega
        obtain ⟨b, hb⟩ : ∃ b, b = R' ++ more := ⟨_, rfl⟩
        rw [← hb] at hB4 hall hbl
        obtain ⟨A4, c4, rfl, ho4, hA4⟩ := hB4
        simp -dsimp [go_sem]
        refine call (decode_spec b A4 c4 w4 ho4.rd ho4.2.1 hbl) ?_
        rintro v w5 ⟨hk5, u5, rfl, hB5⟩
        rw [hall] at hB5 ⊢
        obtain ⟨A5, c5, rfl, ho5, hA5⟩ := hB5
        have he' : ((e : Int) != 0) = true := by simp; omega
        simp -dsimp [go_sem, he']
        refine call (fknown_spec w5) ?_
        rintro v w6 ⟨rfl, hk6⟩
        simp -dsimp [go_sem]
        exact (k4.nw hk5).nw hk6
end Go.Proofs.Ytdhgfljpnjneeaa
