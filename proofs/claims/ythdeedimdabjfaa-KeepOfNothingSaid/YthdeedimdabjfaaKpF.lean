/-
  KeepOfNothing walked: without a Disk, or a name, nothing is saved. By the session itself.
-/
import Derived.Test.YthdeedimdabjfaaKpE
import Derived.Laws.OwnMore
namespace Go.Proofs.Ythdeedimdabjfaa
set_option linter.unusedSimpArgs false
set_option linter.unusedVariables false
set_option maxRecDepth 100000
set_option maxHeartbeats 1000000
open Go.Vc Go.RowKit

theorem nil_load (s : ByteArray) (w : World) : Cal Try.prog 26 #[.pointer none, .string s] w fun v w' => v = .tuple #[.slice none 0 0, i64 1] ∧ w' = w := by
  refine enter Try.mixed Try.func26 rfl (by kernel_rfl) ?_
  simp -dsimp [go_sem]
theorem nil_save (s : ByteArray) (A : Option Addr) (n c : Nat) (w : World) : Cal Try.prog 25 #[.pointer none, .string s, .slice A n c] w fun v w' => v = i64 1 ∧ w' = w := by
  refine enter Try.mixed Try.func25 rfl (by kernel_rfl) ?_
  simp -dsimp [go_sem]
theorem nil_clear (s : ByteArray) (A : Option Addr) (n c : Nat) (w : World) : Cal Try.prog 38 #[.pointer none, .string s, .slice A n c] w fun v w' => v = i64 1 ∧ w' = w := by
  refine enter Try.mixed Try.func38 rfl (by kernel_rfl) ?_
  simp -dsimp [go_sem]
theorem make_u8 {P : Program} {t e : TypeId} (ht : P.underlying t = some (.slice e)) (he : (P.info? e).map (fun i => (i.zero, i.size, i.bytes)) = some (some (.int .u8 0), 1, 1)) (n : Nat) (hn : n ≤ 16777216) (w : World) :
    (Instr.makeSlice t (i64 n) (i64 n)).run P w = .ok (.slice (some ⟨w.heap.size, 0, none⟩) n n) (w.alloc (.cells ((List.replicate n (0 : UInt8)).map u8).toArray e)) := by
  obtain ⟨i, hi, hz0, hz1, hz2⟩ : ∃ i, P.info? e = some i ∧ i.zero = some (.int .u8 0) ∧ i.size = 1 ∧ i.bytes = 1 := by
    cases hp : P.info? e with
    | none => rw [hp] at he; cases he
    | some i => rw [hp] at he; simp at he; exact ⟨i, rfl, he.1, he.2.1, he.2.2⟩
  have h := run_makeSlice (P := P) (w := w) t e i (.int .u8 0) ht hi hz0 .i64 .i64 n n (by omega) (by omega) (by rw [hz1]; omega) (by rw [hz2]; omega) (by omega)
  rw [h, Int.toNat_natCast, hz1, Nat.mul_one]
  have : madeCells (Value.int .u8 0).cells n = ((List.replicate n (0 : UInt8)).map u8).toArray := by
    apply Array.ext'
    rw [show (Value.int .u8 0).cells = #[.int .u8 0] from rfl, toList_madeCells_one]
    simp
  rw [this]
theorem knothing_law (b : List UInt8) (n0 : Int) (B : Option Addr) (cb : Nat) (w : World) (hrB : Rd w B (b.map u8)) (hcb : b.length ≤ cb) :
    Cal Try.prog 11 #[.slice B b.length cb, i64 n0] w fun v w' => v = .bool true ∧ Nw w w' := by
  refine enter Try.mixed Try.func11 rfl (by kernel_rfl) ?_
  by_cases h1 : 5000 < b.length
  · have h1' : (5000 : Int) < (b.length : Int) := by omega
    simp -dsimp [go_sem, h1, h1']
    exact Kp.refl _ _
  have h1' : ¬ (5000 : Int) < (b.length : Int) := by omega
  by_cases h2 : n0 < 0
  · simp -dsimp [go_sem, h1, h1', h2]
    exact Kp.refl _ _
  by_cases h3 : 100 < n0
  · simp -dsimp [go_sem, h1, h1', h2, h3]
    exact Kp.refl _ _
  obtain ⟨N, rfl⟩ : ∃ N : Nat, n0 = N := ⟨n0.toNat, by omega⟩
  simp -dsimp [go_sem, h1, h1', h2, h3]
  refine call (new_spec 1048576 w) ?_
  rintro v w1 (⟨h, _⟩ | ⟨_, _, g, F, rfl, hD, nF, hk1⟩)
  · omega
  have hD : Dk w1 g ⟨1048576, [], none⟩ F := hD
  simp -dsimp [go_sem]
  refine call (nil_load _ w1) ?_
  rintro v w2 ⟨rfl, rfl⟩
  have hmk := fun w : World => make_u8 (P := Try.prog) (t := 23) (e := 5) (by kernel_rfl) (by kernel_rfl) N (by omega) w
  have hcvs := fun (w : World) => conv_str (P := Try.prog) (t := 23) (s := 9) (e := 5) (A := some ⟨w.heap.size, 0, none⟩) (c := N) (l := List.replicate N 0) (w := w.alloc (.cells ((List.replicate N 0).map u8).toArray 5)) (by kernel_rfl) (by kernel_rfl) (by kernel_rfl) (Rd.fresh rfl (by simp))
  have hnl : (List.replicate N (0 : UInt8)).length = N := by simp
  rw [hnl] at hcvs
  obtain ⟨nm, hnm⟩ : ∃ nm, nm = List.replicate N (0 : UInt8) := ⟨_, rfl⟩
  rw [← hnm] at hmk hcvs hnl
  by_cases h4 : N < 1
  · have h4' : (N : Int) < 1 := by omega
    have esv : (kSave ⟨1048576, [], none⟩ nm b).2 = 1 := by
      unfold kSave
      rw [if_pos (.inl (by omega))]
    simp -dsimp [go_sem, h4, h4']
    refine call (nil_save _ _ _ _ _) ?_
    rintro v w3 ⟨rfl, rfl⟩
    simp -dsimp [go_sem]
    refine call (nil_clear _ _ _ _ _) ?_
    rintro v w4 ⟨rfl, rfl⟩
    have k4 : Nw w2 (w2.alloc (.cells #[.slice B b.length cb] 23)) := (Kp.refl _ _).alloc _
    have nw4 := hk1.nw k4
    have hD4 := hD.nw k4
    generalize w2.alloc (.cells #[.slice B b.length cb] 23) = w4 at *
    simp -dsimp [go_sem, hmk, hcvs]
    have k5 : Nw w4 (w4.alloc (.cells (nm.map u8).toArray 5)) := (Kp.refl _ _).alloc _
    have nw5 := nw4.nw k5
    have hD5 := hD4.nw k5
    have hsz : (w4.alloc (.cells (nm.map u8).toArray 5)).heap.size = w4.heap.size + 1 := by simp
    generalize w4.alloc (.cells (nm.map u8).toArray 5) = w5 at *
    have k6 : Nw w5 (w5.alloc (.cells #[.slice B b.length cb] 23)) := (Kp.refl _ _).alloc _
    refine call (ksave_spec nm [b] _ 1 g _ F (fun _ => False) _ (hD5.nw k6) (Brs.one (p := b) (d := cb) (Blk.fresh hsz.symm) (fun h => h) ((hrB.nw nw5).nw k6) (fun _ _ h => h) hcb) (by simp) (by simp) (by simp; omega)) ?_
    rw [show ([b] : List (List UInt8)).flatten = b by simp, esv]
    rintro v w7 ⟨rfl, F7, h7, hG7, hK7⟩
    have nw7 : Nw w w7 := Nw.at_ (nw5.nw k6) hK7 nF
    simp -dsimp [go_sem]
    refine call (kknown_spec w7) ?_
    rintro v w8 ⟨rfl, hk8⟩
    simp -dsimp [go_sem]
    exact nw7.nw hk8
  · have h4' : ¬ (N : Int) < 1 := by omega
    by_cases h5 : 60 < N
    · have h5' : (60 : Int) < (N : Int) := by omega
      have esv : (kSave ⟨1048576, [], none⟩ nm b).2 = 1 := by
        unfold kSave
        rw [if_pos (.inr (by omega))]
      simp -dsimp [go_sem, h4, h4', h5, h5']
      refine call (nil_save _ _ _ _ _) ?_
      rintro v w3 ⟨rfl, rfl⟩
      simp -dsimp [go_sem]
      refine call (nil_clear _ _ _ _ _) ?_
      rintro v w4 ⟨rfl, rfl⟩
      have k4 : Nw w2 (w2.alloc (.cells #[.slice B b.length cb] 23)) := (Kp.refl _ _).alloc _
      have nw4 := hk1.nw k4
      have hD4 := hD.nw k4
      generalize w2.alloc (.cells #[.slice B b.length cb] 23) = w4 at *
      simp -dsimp [go_sem, hmk, hcvs]
      have k5 : Nw w4 (w4.alloc (.cells (nm.map u8).toArray 5)) := (Kp.refl _ _).alloc _
      have nw5 := nw4.nw k5
      have hD5 := hD4.nw k5
      have hsz : (w4.alloc (.cells (nm.map u8).toArray 5)).heap.size = w4.heap.size + 1 := by simp
      generalize w4.alloc (.cells (nm.map u8).toArray 5) = w5 at *
      have k6 : Nw w5 (w5.alloc (.cells #[.slice B b.length cb] 23)) := (Kp.refl _ _).alloc _
      refine call (ksave_spec nm [b] _ 1 g _ F (fun _ => False) _ (hD5.nw k6) (Brs.one (p := b) (d := cb) (Blk.fresh hsz.symm) (fun h => h) ((hrB.nw nw5).nw k6) (fun _ _ h => h) hcb) (by simp) (by simp) (by simp; omega)) ?_
      rw [show ([b] : List (List UInt8)).flatten = b by simp, esv]
      rintro v w7 ⟨rfl, F7, h7, hG7, hK7⟩
      have nw7 : Nw w w7 := Nw.at_ (nw5.nw k6) hK7 nF
      simp -dsimp [go_sem]
      refine call (kknown_spec w7) ?_
      rintro v w8 ⟨rfl, hk8⟩
      simp -dsimp [go_sem]
      exact nw7.nw hk8
    · have h5' : ¬ (60 : Int) < (N : Int) := by omega
      have esv : (kSave ⟨1048576, [], none⟩ nm b).2 = 0 := by
        rw [kSave_is hD.ok (by omega) (by omega) (by omega) rfl (by simp [Dsk.used, sumv]; omega) (by simp) rfl]
      simp -dsimp [go_sem, h4, h4', h5, h5']
      refine call (nil_save _ _ _ _ _) ?_
      rintro v w3 ⟨rfl, rfl⟩
      simp -dsimp [go_sem]
      refine call (nil_clear _ _ _ _ _) ?_
      rintro v w4 ⟨rfl, rfl⟩
      have k4 : Nw w2 (w2.alloc (.cells #[.slice B b.length cb] 23)) := (Kp.refl _ _).alloc _
      have nw4 := hk1.nw k4
      have hD4 := hD.nw k4
      generalize w2.alloc (.cells #[.slice B b.length cb] 23) = w4 at *
      simp -dsimp [go_sem, hmk, hcvs]
      have k5 : Nw w4 (w4.alloc (.cells (nm.map u8).toArray 5)) := (Kp.refl _ _).alloc _
      have nw5 := nw4.nw k5
      have hD5 := hD4.nw k5
      have hsz : (w4.alloc (.cells (nm.map u8).toArray 5)).heap.size = w4.heap.size + 1 := by simp
      generalize w4.alloc (.cells (nm.map u8).toArray 5) = w5 at *
      have k6 : Nw w5 (w5.alloc (.cells #[.slice B b.length cb] 23)) := (Kp.refl _ _).alloc _
      refine call (ksave_spec nm [b] _ 1 g _ F (fun _ => False) _ (hD5.nw k6) (Brs.one (p := b) (d := cb) (Blk.fresh hsz.symm) (fun h => h) ((hrB.nw nw5).nw k6) (fun _ _ h => h) hcb) (by simp) (by simp) (by simp; omega)) ?_
      rw [show ([b] : List (List UInt8)).flatten = b by simp, esv]
      rintro v w7 ⟨rfl, F7, h7, hG7, hK7⟩
      have nw7 : Nw w w7 := Nw.at_ (nw5.nw k6) hK7 nF
      simp -dsimp [go_sem]
      refine call (kknown_spec w7) ?_
      rintro v w8 ⟨rfl, hk8⟩
      simp -dsimp [go_sem]
      exact nw7.nw hk8
end Go.Proofs.Ythdeedimdabjfaa
