/-
  lock's known, long walked, apart from LockOne. By the session itself.
-/
import Derived.Test.YtfdbnlgokaapnaaLkA
namespace Go.Proofs.Ytfdbnlgokaapnaa
set_option linter.unusedSimpArgs false
set_option linter.unusedVariables false
set_option maxRecDepth 100000
open Go.Vc Go.RowKit

structure Act where
  kind : Int
  user : ByteArray
  conn : Int
  now : Int
  limit : Int
def Act.cells (a : Act) : List Value := [i64 a.kind, .string a.user, i64 a.conn, i64 a.now, i64 a.limit]
/-- The acts of a slice. -/
def Acts (w : World) (A : Option Addr) (l : List Act) : Prop := ∀ i (h : i < l.length), ∃ b o, A = some ⟨b, o, none⟩ ∧ ∀ j u, l[i].cells[j]? = some u → w.cell? ⟨b, o + i * 5 + j, none⟩ = some u
theorem Acts.nw {w w' : World} {A : Option Addr} {l : List Act} (h : Acts w A l) (k : Nw w w') : Acts w' A l := fun i hi => by
  obtain ⟨b, o, rfl, hc⟩ := h i hi
  exact ⟨b, o, rfl, fun j u hj => k.cell_some (hc j u hj) fun h => h⟩

theorem long_spec (l : List Act) (A : Option Addr) (c : Nat) (w : World) (h : Acts w A l) :
    Cal Try.prog 12 #[.slice A l.length c] w fun v w' => (∃ b, v = .bool b) ∧ w' = w := by
  refine enter Try.mixed Try.func12 rfl (by kernel_rfl) ?_
  simp -dsimp [go_sem]
  refine loop [2, 3, 4, 5, 6, 7, 8, 9, 10, 11, 12, 13, 14, 15, 16, 17, 18, 19, 20, 21, 22, 23, 24, 25, 26, 27, 28, 29, 30, 31, 32, 33, 34, 35, 36, 37, 38, 39, 40, 41, 42, 43, 44, 45, 46, 47, 48, 49, 50, 51, 52, 53, 54, 55, 56, 57] (by kernel_rfl)
    (fun f w' => Box (∃ (i : Nat) (z : Int), f 4 = i64 i ∧ f 3 = i64 z ∧ i ≤ 100 ∧ w' = w)) (fun f _ => 100 - (intOf (f 4)).toNat) ⟨0, 0, rfl, rfl, by omega, rfl⟩ ?_
  rintro f w' ⟨i, z, f4, f3, hi, rfl⟩
  by_cases hlt : i < l.length
  · by_cases h100 : i < 100
    · obtain ⟨b, o, rfl, hc⟩ := h i hlt
      have h1 := hc 1 _ rfl
      have h3 := hc 3 _ rfl
      have h4 := hc 4 _ rfl
      have h100' : (i : Int) < 100 := by omega
      have hk1 : IntKind.i64.wrap ((i : Int) + 1) = ((i + 1 : Nat) : Int) := w64 (by omega) (by omega)
      obtain ⟨k1, hk1'⟩ : ∃ k1, k1 = i + 1 := ⟨_, rfl⟩
      rw [← hk1'] at hk1
      obtain ⟨z1, hz1⟩ : ∃ z1, IntKind.i64.wrap (IntKind.i64.wrap (z + 1) + (l[i].user.size : Int)) = z1 := ⟨_, rfl⟩
      by_cases c1 : 3000 < z1
      · simp -dsimp [go_sem, f3, f4, hlt, h100', h1, h3, h4, hz1, c1]
      · by_cases c2 : l[i].now < 0
        · simp -dsimp [go_sem, f3, f4, hlt, h100', h1, h3, h4, hz1, c1, c2]
        · by_cases c3 : 1099511627776 < l[i].now
          · simp -dsimp [go_sem, f3, f4, hlt, h100', h1, h3, h4, hz1, c1, c2, c3]
          · by_cases c4 : l[i].limit < 0
            · simp -dsimp [go_sem, f3, f4, hlt, h100', h1, h3, h4, hz1, c1, c2, c3, c4]
            · by_cases c5 : 1099511627776 < l[i].limit
              · simp -dsimp [go_sem, f3, f4, hlt, h100', h1, h3, h4, hz1, c1, c2, c3, c4, c5]
              · simp -dsimp [go_sem, f3, f4, hlt, h100', h1, h3, h4, hz1, c1, c2, c3, c4, c5, hk1]
                exact ⟨⟨k1, z1, rfl, rfl, by omega, rfl⟩, by simp [intOf]; omega⟩
    · have h100' : ¬ (i : Int) < 100 := by omega
      simp -dsimp [go_sem, f3, f4, hlt, h100']
  · simp -dsimp [go_sem, f3, f4, hlt]

theorem lknown_spec (w : World) : Cal Try.prog 11 #[] w fun v w' => v = .bool true ∧ Nw w w' := by
  refine enter Try.mixed Try.func11 rfl (by kernel_rfl) ?_
  simp -dsimp [go_sem]
  refine call (new_spec w) ?_
  rintro v w1 ⟨g, F, rfl, hL, nF, hk⟩
  simp -dsimp [go_sem]
  refine call (take_spec g _ _ F _ _ w1 hL) ?_
  rintro v w2 ⟨rfl, hL2, hk2⟩
  have e1 : mayF (fun _ => none) (⟨#[97]⟩ : ByteArray) 1 = true := rfl
  have k2 := hk.at_ hk2 nF
  rw [e1]
  simp -dsimp [go_sem]
  refine call (take_spec g _ _ F _ _ w2 hL2) ?_
  rintro v w3 ⟨rfl, hL3, hk3⟩
  have e2 : mayF (takeF (fun _ => none) (⟨#[97]⟩ : ByteArray) 1) (⟨#[97]⟩ : ByteArray) 2 = false := by decide +kernel
  have k3 := k2.at_ hk3 nF
  rw [e2]
  simp -dsimp [go_sem]
  refine call (take_spec g _ _ F _ _ w3 hL3) ?_
  rintro v w4 ⟨rfl, hL4, hk4⟩
  have e3 : mayF (takeF (takeF (fun _ => none) (⟨#[97]⟩ : ByteArray) 1) (⟨#[97]⟩ : ByteArray) 2) (⟨#[97]⟩ : ByteArray) 1 = true := by decide +kernel
  have k4 := k3.at_ hk4 nF
  rw [e3]
  simp -dsimp [go_sem]
  refine call (take_spec g _ _ F _ _ w4 hL4) ?_
  rintro v w5 ⟨rfl, hL5, hk5⟩
  have e4 : mayF (takeF (takeF (takeF (fun _ => none) (⟨#[97]⟩ : ByteArray) 1) (⟨#[97]⟩ : ByteArray) 2) (⟨#[97]⟩ : ByteArray) 1) (⟨#[98]⟩ : ByteArray) 2 = true := by decide +kernel
  rw [e4]
  simp -dsimp [go_sem]
  exact k4.at_ hk5 nF

end Go.Proofs.Ytfdbnlgokaapnaa
