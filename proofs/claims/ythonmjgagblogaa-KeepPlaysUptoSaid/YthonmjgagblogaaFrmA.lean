/-
  The small functions of frame and of its reference: four bytes and back. By the session itself.
-/
import Derived.Test.YthonmjgagblogaaCrc
import Derived.Test.YthonmjgagblogaaJoin
import Derived.Test.YthonmjgagblogaaClone
namespace Go.Proofs.Ythonmjgagblogaa
set_option linter.unusedSimpArgs false
set_option linter.unusedVariables false
set_option maxRecDepth 100000
open Go.Vc Go.RowKit

/-- A number in four bytes, the lowest first. -/
def fourL (n : Nat) : List UInt8 := [UInt8.ofNat (n % 256), UInt8.ofNat (n / 256 % 256), UInt8.ofNat (n / 65536 % 256), UInt8.ofNat (n / 16777216 % 256)]
theorem four_spec (n : Nat) (h : n < 4294967296) (w : World) : Cal Try.prog 95 #[.int .u32 n] w fun v w' => Bs w' v (fourL n) w.heap.size ∧ Nw w w' := by
  refine enter Try.mixed Try.func95 rfl (by kernel_rfl) ?_
  have e0 : IntKind.u8.wrap (n : Int) = ((n % 256 : Nat) : Int) := by rw [IntKind.wrap_u8']; omega
  have s1 : (n : Int) / 256 = ((n / 256 : Nat) : Int) := by omega
  have s2 : (n : Int) / 65536 = ((n / 65536 : Nat) : Int) := by omega
  have s3 : (n : Int) / 16777216 = ((n / 16777216 : Nat) : Int) := by omega
  have e1 : IntKind.u8.wrap ((n / 256 : Nat) : Int) = ((n / 256 % 256 : Nat) : Int) := by rw [IntKind.wrap_u8']; omega
  have e2 : IntKind.u8.wrap ((n / 65536 : Nat) : Int) = ((n / 65536 % 256 : Nat) : Int) := by rw [IntKind.wrap_u8']; omega
  have e3 : IntKind.u8.wrap ((n / 16777216 : Nat) : Int) = ((n / 16777216 % 256 : Nat) : Int) := by rw [IntKind.wrap_u8']; omega
  have hl : (fourL n).map u8 = [.int .u8 ((n % 256 : Nat) : Int), .int .u8 ((n / 256 % 256 : Nat) : Int), .int .u8 ((n / 65536 % 256 : Nat) : Int), .int .u8 ((n / 16777216 % 256 : Nat) : Int)] := by
    simp only [fourL, List.map_cons, List.map_nil]
    rw [byteOf _ (by omega), byteOf _ (by omega), byteOf _ (by omega), byteOf _ (by omega)]
  generalize n % 256 = x0 at e0 hl
  obtain ⟨y1, hy1⟩ : ∃ y1, y1 = n / 256 := ⟨_, rfl⟩
  obtain ⟨y2, hy2⟩ : ∃ y2, y2 = n / 65536 := ⟨_, rfl⟩
  obtain ⟨y3, hy3⟩ : ∃ y3, y3 = n / 16777216 := ⟨_, rfl⟩
  rw [← hy1] at s1 e1 hl
  rw [← hy2] at s2 e2 hl
  rw [← hy3] at s3 e3 hl
  obtain ⟨x1, hx1⟩ : ∃ x1, x1 = y1 % 256 := ⟨_, rfl⟩
  obtain ⟨x2, hx2⟩ : ∃ x2, x2 = y2 % 256 := ⟨_, rfl⟩
  obtain ⟨x3, hx3⟩ : ∃ x3, x3 = y3 % 256 := ⟨_, rfl⟩
  rw [← hx1] at e1 hl
  rw [← hx2] at e2 hl
  rw [← hx3] at e3 hl
  simp -dsimp [go_sem, e0, e1, e2, e3, s1, s2, s3]
  refine ⟨?_, (Kp.refl _ _).alloc _⟩
  exact Bs.of_gs (by rw [hl]; exact Gs.made w 5 1 4 _ rfl rfl rfl (by simp [maxLen]) (Nat.le_refl _)) rfl
theorem refFour_spec (n : Nat) (h : n < 4294967296) (w : World) : Cal Try.prog 97 #[.int .u32 n] w fun v w' => Bs w' v (fourL n) w.heap.size ∧ Nw w w' := by
  refine enter Try.mixed Try.func97 rfl (by kernel_rfl) ?_
  have e0 : IntKind.u8.wrap (n : Int) = ((n % 256 : Nat) : Int) := by rw [IntKind.wrap_u8']; omega
  have s1 : (n : Int) / 256 = ((n / 256 : Nat) : Int) := by omega
  have s2 : (n : Int) / 65536 = ((n / 65536 : Nat) : Int) := by omega
  have s3 : (n : Int) / 16777216 = ((n / 16777216 : Nat) : Int) := by omega
  have e1 : IntKind.u8.wrap ((n / 256 : Nat) : Int) = ((n / 256 % 256 : Nat) : Int) := by rw [IntKind.wrap_u8']; omega
  have e2 : IntKind.u8.wrap ((n / 65536 : Nat) : Int) = ((n / 65536 % 256 : Nat) : Int) := by rw [IntKind.wrap_u8']; omega
  have e3 : IntKind.u8.wrap ((n / 16777216 : Nat) : Int) = ((n / 16777216 % 256 : Nat) : Int) := by rw [IntKind.wrap_u8']; omega
  have hl : (fourL n).map u8 = [.int .u8 ((n % 256 : Nat) : Int), .int .u8 ((n / 256 % 256 : Nat) : Int), .int .u8 ((n / 65536 % 256 : Nat) : Int), .int .u8 ((n / 16777216 % 256 : Nat) : Int)] := by
    simp only [fourL, List.map_cons, List.map_nil]
    rw [byteOf _ (by omega), byteOf _ (by omega), byteOf _ (by omega), byteOf _ (by omega)]
  generalize n % 256 = x0 at e0 hl
  obtain ⟨y1, hy1⟩ : ∃ y1, y1 = n / 256 := ⟨_, rfl⟩
  obtain ⟨y2, hy2⟩ : ∃ y2, y2 = n / 65536 := ⟨_, rfl⟩
  obtain ⟨y3, hy3⟩ : ∃ y3, y3 = n / 16777216 := ⟨_, rfl⟩
  rw [← hy1] at s1 e1 hl
  rw [← hy2] at s2 e2 hl
  rw [← hy3] at s3 e3 hl
  obtain ⟨x1, hx1⟩ : ∃ x1, x1 = y1 % 256 := ⟨_, rfl⟩
  obtain ⟨x2, hx2⟩ : ∃ x2, x2 = y2 % 256 := ⟨_, rfl⟩
  obtain ⟨x3, hx3⟩ : ∃ x3, x3 = y3 % 256 := ⟨_, rfl⟩
  rw [← hx1] at e1 hl
  rw [← hx2] at e2 hl
  rw [← hx3] at e3 hl
  simp -dsimp [go_sem, e0, e1, e2, e3, s1, s2, s3]
  refine ⟨?_, (Kp.refl _ _).alloc _⟩
  exact Bs.of_gs (by rw [hl]; exact Gs.made w 5 1 4 _ rfl rfl rfl (by simp [maxLen]) (Nat.le_refl _)) rfl

/-- The number of four bytes. -/
def fromL (l : List UInt8) : Nat := match l with
  | a :: b :: c :: d :: _ => a.toNat + b.toNat * 256 + c.toNat * 65536 + d.toNat * 16777216
  | _ => 0
theorem or_at (k u x : Nat) (hk : k ≤ 24) (hu : u < 2 ^ k) (hx : x < 256) : bits .or .u32 (u : Int) (IntKind.u32.wrap ((x : Int) * ((2 ^ k : Nat) : Int))) = ((u + x * 2 ^ k : Nat) : Int) := by
  have h1 : 2 ^ k ≤ 2 ^ 24 := Nat.pow_le_pow_right (by omega) (by omega)
  have h2 : x * 2 ^ k ≤ 255 * 2 ^ 24 := Nat.mul_le_mul (by omega) h1
  have e : (x : Int) * ((2 ^ k : Nat) : Int) = ((x * 2 ^ k : Nat) : Int) := by rw [Int.natCast_mul]
  rw [e, show IntKind.u32.wrap ((x * 2 ^ k : Nat) : Int) = ((x * 2 ^ k : Nat) : Int) by rw [IntKind.wrap_u32']; omega, u32_or_nat u _ (by omega) (by omega), Nat.or_comm, nat_join k _ _ (Nat.mul_mod_left _ _) hu, Nat.add_comm]
theorem from_or (a b c d : UInt8) {r : List UInt8} : bits .or .u32 (bits .or .u32 (bits .or .u32 (a.toNat : Int) (IntKind.u32.wrap ((b.toNat : Int) * 256))) (IntKind.u32.wrap ((c.toNat : Int) * 65536))) (IntKind.u32.wrap ((d.toNat : Int) * 16777216)) = (fromL (a :: b :: c :: d :: r) : Int) := by
  have ha := UInt8.toNat_lt a
  have hb := UInt8.toNat_lt b
  have hc := UInt8.toNat_lt c
  have hd := UInt8.toNat_lt d
  have e1 := or_at 8 a.toNat b.toNat (by omega) (by omega) (by omega)
  have e2 := or_at 16 (a.toNat + b.toNat * 2 ^ 8) c.toNat (by omega) (by omega) (by omega)
  have e3 := or_at 24 (a.toNat + b.toNat * 2 ^ 8 + c.toNat * 2 ^ 16) d.toNat (by omega) (by omega) (by omega)
  rw [show (256 : Int) = ((2 ^ 8 : Nat) : Int) from rfl, show (65536 : Int) = ((2 ^ 16 : Nat) : Int) from rfl, show (16777216 : Int) = ((2 ^ 24 : Nat) : Int) from rfl, e1, e2, e3]
  rfl
theorem from_spec (l : List UInt8) (hl : 4 ≤ l.length) (A : Option Addr) (c : Nat) (w : World) (hr : Rd w A (l.map u8)) : Cal Try.prog 116 #[.slice A l.length c] w fun v w' => v = .int .u32 (fromL l : Nat) ∧ Nw w w' := by
  match l, hl with
  | a :: b :: c0 :: d :: r, _ =>
    obtain ⟨g, o, rfl, h0⟩ := hr 0 (u8 a) rfl
    obtain ⟨_, _, e, h1⟩ := hr 1 (u8 b) rfl
    cases e
    obtain ⟨_, _, e, h2⟩ := hr 2 (u8 c0) rfl
    cases e
    obtain ⟨_, _, e, h3⟩ := hr 3 (u8 d) rfl
    cases e
    have hn : (a :: b :: c0 :: d :: r).length = r.length + 4 := rfl
    rw [hn, Nat.add_zero] at *
    obtain ⟨n, hn'⟩ : ∃ n, n = r.length + 4 := ⟨_, rfl⟩
    rw [← hn']
    have l0 : 0 < n := by omega
    have l1 : 1 < n := by omega
    have l2 : 2 < n := by omega
    have l3 : 3 < n := by omega
    have m1 : (1 : Int) < (n : Int) := by omega
    have m2 : (2 : Int) < (n : Int) := by omega
    have m3 : (3 : Int) < (n : Int) := by omega
    have wrp : ∀ x : UInt8, IntKind.u32.wrap (x.toNat : Int) = (x.toNat : Int) := fun x => by
      have := UInt8.toNat_lt x
      rw [IntKind.wrap_u32']; omega
    refine enter Try.mixed Try.func116 rfl (by kernel_rfl) ?_
    simp -dsimp [go_sem]
    refine draw (.take 0 (.take 1 (.take 2 (.take 3 (.take 4 (.take 5 (.take 6 (.take 7 (.take 8 (.take 9 (.take 10 (.take 11 (.take 12 (.take 13 (.take 14 (.take 15 (.take 16 (.take 17 (.take 18 (.take 19 (.take 20 (.take 21 (.take 22 .done))))))))))))))))))))))) (by kernel_rfl) (fun w1 => w1.heap = w.heap) rfl ?_
    have hcell : ∀ w1 : World, w1.heap = w.heap → ∀ a, w1.cell? a = w.cell? a := fun w1 h a => by simp [World.cell?, h]
    simp -dsimp [go_sem, l0, l1, l2, l3, m1, m2, m3, h0, h1, h2, h3, wrp]
    refine ⟨fun w1 h => by simp [hcell w1 h, h0], fun w1 h => by simp [hcell w1 h, h1], fun w1 h => by simp [hcell w1 h, h2], fun w1 h => by simp [hcell w1 h, h3], ?_, (Kp.refl _ _).drew⟩
    exact from_or a b c0 d
theorem refFrom_spec (l : List UInt8) (hl : 4 ≤ l.length) (A : Option Addr) (c : Nat) (w : World) (hr : Rd w A (l.map u8)) : Cal Try.prog 118 #[.slice A l.length c] w fun v w' => v = .int .u32 (fromL l : Nat) ∧ Nw w w' := by
  match l, hl with
  | a :: b :: c0 :: d :: r, _ =>
    obtain ⟨g, o, rfl, h0⟩ := hr 0 (u8 a) rfl
    obtain ⟨_, _, e, h1⟩ := hr 1 (u8 b) rfl
    cases e
    obtain ⟨_, _, e, h2⟩ := hr 2 (u8 c0) rfl
    cases e
    obtain ⟨_, _, e, h3⟩ := hr 3 (u8 d) rfl
    cases e
    have hn : (a :: b :: c0 :: d :: r).length = r.length + 4 := rfl
    rw [hn, Nat.add_zero] at *
    obtain ⟨n, hn'⟩ : ∃ n, n = r.length + 4 := ⟨_, rfl⟩
    rw [← hn']
    have l0 : 0 < n := by omega
    have l1 : 1 < n := by omega
    have l2 : 2 < n := by omega
    have l3 : 3 < n := by omega
    have m1 : (1 : Int) < (n : Int) := by omega
    have m2 : (2 : Int) < (n : Int) := by omega
    have m3 : (3 : Int) < (n : Int) := by omega
    have wrp : ∀ x : UInt8, IntKind.u32.wrap (x.toNat : Int) = (x.toNat : Int) := fun x => by
      have := UInt8.toNat_lt x
      rw [IntKind.wrap_u32']; omega
    refine enter Try.mixed Try.func118 rfl (by kernel_rfl) ?_
    simp -dsimp [go_sem]
    refine draw (.take 0 (.take 1 (.take 2 (.take 3 (.take 4 (.take 5 (.take 6 (.take 7 (.take 8 (.take 9 (.take 10 (.take 11 (.take 12 (.take 13 (.take 14 (.take 15 (.take 16 (.take 17 (.take 18 (.take 19 (.take 20 (.take 21 (.take 22 .done))))))))))))))))))))))) (by kernel_rfl) (fun w1 => w1.heap = w.heap) rfl ?_
    have hcell : ∀ w1 : World, w1.heap = w.heap → ∀ a, w1.cell? a = w.cell? a := fun w1 h a => by simp [World.cell?, h]
    simp -dsimp [go_sem, l0, l1, l2, l3, m1, m2, m3, h0, h1, h2, h3, wrp]
    refine ⟨fun w1 h => by simp [hcell w1 h, h0], fun w1 h => by simp [hcell w1 h, h1], fun w1 h => by simp [hcell w1 h, h2], fun w1 h => by simp [hcell w1 h, h3], ?_, (Kp.refl _ _).drew⟩
    exact from_or a b c0 d
end Go.Proofs.Ythonmjgagblogaa
