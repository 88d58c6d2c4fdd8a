/-
  The library's functions on strings that base calls: IndexByte, TrimRight at "=", IndexRune in the letters. By the session itself.
-/
import Derived.Test.YthdbppggnkfgjaaDoorBs
import Derived.Test.YthdbppggnkfgjaaDoorBaA
import Derived.Lib.TrimByte
import Derived.Lib.OthersKept
import Derived.Lib.RuneBytes
import Derived.Laws.Runes
namespace Go.Proofs.YthdbppggnkfgjaaDoor
set_option linter.unusedSimpArgs false
set_option linter.unusedVariables false
set_option maxRecDepth 100000
set_option maxHeartbeats 1000000
open Go.Vc Go.RowKit

/-- A text of these bytes. -/
abbrev stL (l : List UInt8) : Value := .string ⟨l.toArray⟩
def ibS (P : Program) (args : Array Value) (w : World) : Result Value := (Extern.BytealgIndexByte.indexByte args).run P w
@[go_sem] theorem ibs_call (a b args : Array Value) (w : World) (K : Value → World → Prop) (k : Stop K) : callV Tryd.prog (.func (.func 32) a b) args w K k = wV K .mk (ibS Tryd.prog (a ++ args ++ b) w) :=
  callV_entry (e := Extern.BytealgIndexByte.indexByte) Tryd.func32 (by kernel_rfl) (by kernel_rfl) (by kernel_rfl) (by kernel_rfl) a b args w K k
theorem ibs_ok (s : ByteArray) (c : Int) (w : World) : ibS Tryd.prog #[.string s, .int .u8 c] w = .ok (.int .i64 (Lib.indexByte s.data.toList c.toNat.toUInt8)) w := Lib.run_indexByteString s c w
theorem slIndexByte_spec (s : ByteArray) (c : Int) (w : World) : Cal Tryd.prog 29 #[.string s, .int .u8 c] w fun v w' => v = i64 (Lib.indexByte s.data.toList c.toNat.toUInt8) ∧ w' = w := by
  refine enter Tryd.mixed Tryd.func29 rfl (by kernel_rfl) ?_
  simp -dsimp [go_sem, ibs_ok]
theorem indexByte_spec (s : ByteArray) (c : Int) (w : World) : Cal Tryd.prog 22 #[.string s, .int .u8 c] w fun v w' => v = i64 (Lib.indexByte s.data.toList c.toNat.toUInt8) ∧ w' = w := by
  refine enter Tryd.mixed Tryd.func22 rfl (by kernel_rfl) ?_
  simp -dsimp [go_sem]
  refine call (slIndexByte_spec s c w) ?_
  rintro v w' ⟨rfl, rfl⟩
  simp -dsimp [go_sem]

theorem trimR_nil : trimR [] = [] := rfl
theorem trimR_snoc (x : List UInt8) (c : UInt8) : trimR (x ++ [c]) = if c = 61 then trimR x else x ++ [c] := by
  unfold trimR
  rw [List.reverse_append]
  show ((c :: x.reverse).dropWhile _).reverse = _
  split
  · rename_i h; subst h; rfl
  · rename_i h
    rw [List.dropWhile_cons_of_neg (by simpa using h)]
    simp
theorem trimRightByte_spec (s : List UInt8) (w : World) (hs : s.length ≤ 9223372036854775807) : Cal Tryd.prog 18 #[stL s, .int .u8 61] w fun v w' => v = stL (trimR s) ∧ w' = w := by
  refine enter Tryd.mixed Tryd.func18 rfl (by kernel_rfl) ?_
  simp -dsimp [go_sem]
  refine loop [0, 5, 6, 7, 8, 9, 10, 11, 12, 13, 14, 15, 16, 17, 18, 19, 20, 21] (by kernel_rfl) (fun f w' => Box1 (fun a w' => ∃ x : List UInt8, a = stL x ∧ trimR x = trimR s ∧ x.length ≤ s.length ∧ w' = w) (f 0) w') (fun f _ => Lib.strSize (f 0)) ⟨s, rfl, rfl, Nat.le_refl _, rfl⟩ ?_
  rintro f w' ⟨x, f0, ht, hl, rfl⟩
  rcases List.eq_nil_or_concat x with rfl | ⟨y, c, rfl⟩
  · simp -dsimp [go_sem, f0]
    rw [← ht]; rfl
  · rw [List.concat_eq_append] at *
    have hsz : (⟨(y ++ [c]).toArray⟩ : ByteArray).size = y.length + 1 := by simp [ByteArray.size]
    have hix : ∀ h, (⟨(y ++ [c]).toArray⟩ : ByteArray)[y.length]'h = c := fun h => by
      have h2 := Lib.getElem_mk (y ++ [c]) y.length h
      simp at h2
      exact h2.symm
    have hex : (⟨(y ++ [c]).toArray⟩ : ByteArray).extract 0 y.length = ⟨y.toArray⟩ := by rw [Lib.extract_mk]; simp
    have hyl : y.length + 1 ≤ s.length := by simpa using hl
    obtain ⟨z, hz⟩ : ∃ z, z = (⟨(y ++ [c]).toArray⟩ : ByteArray) := ⟨_, rfl⟩
    replace f0 : f 0 = .string z := by rw [f0, hz]
    simp only [← hz] at hsz hix hex
    obtain ⟨m, hm⟩ : ∃ m, m = y.length := ⟨_, rfl⟩
    rw [← hm] at hix hsz hex hyl
    have hw : IntKind.i64.wrap ((z.size : Int) - 1) = (m : Int) := by rw [w64 (by omega) (by omega)]; omega
    have hpos : 0 < z.size := by omega
    have hmz : m < z.size := by omega
    have hmz2 : m ≤ z.size := by omega
    by_cases hc : c = 61
    · subst hc
      simp -dsimp [go_sem, f0, hw, hpos, hmz, hmz2, hix, hex]
      refine ⟨⟨y, rfl, ?_, by simp at hl; omega, rfl⟩, by simp only [Lib.strSize, hsz, hm, Lib.size_mk]; omega⟩
      rw [trimR_snoc, if_pos rfl] at ht
      exact ht
    · have hc' : ((c.toNat : Int) == 61) = false := by
        have : c.toNat ≠ 61 := fun e => hc (UInt8.toNat_inj.1 e)
        simp; omega
      simp -dsimp [go_sem, f0, hw, hpos, hmz, hmz2, hix, hex, hc']
      rw [← ht, trimR_snoc, if_neg hc, hz]
theorem trimRight_spec (s : List UInt8) (w : World) (hs : s.length ≤ 9223372036854775807) : Cal Tryd.prog 14 #[stL s, .string ⟨#[61]⟩] w fun v w' => v = stL (trimR s) ∧ w' = w := by
  refine enter Tryd.mixed Tryd.func14 rfl (by kernel_rfl) ?_
  have e0 : ∀ h, (⟨#[61]⟩ : ByteArray)[0]'h = 61 := fun _ => rfl
  have e61 : ((⟨#[61]⟩ : ByteArray).size : Nat) = 1 := rfl
  by_cases h0 : s = []
  · subst h0
    simp -dsimp [go_sem]
    rfl
  · have hne : s.isEmpty = false := by cases s <;> simp at *
    simp -dsimp [go_sem, h0, hne, e61, e0]
    refine call (trimRightByte_spec s w hs) ?_
    rintro v w' ⟨rfl, rfl⟩
    simp -dsimp [go_sem]

/-- The letters, as the program writes them. -/
abbrev abcS : ByteArray := ⟨#[65, 66, 67, 68, 69, 70, 71, 72, 73, 74, 75, 76, 77, 78, 79, 80, 81, 82, 83, 84, 85, 86, 87, 88, 89, 90, 97, 98, 99, 100, 101, 102, 103, 104, 105, 106, 107, 108, 109, 110, 111, 112, 113, 114, 115, 116, 117, 118, 119, 120, 121, 122, 48, 49, 50, 51, 52, 53, 54, 55, 56, 57, 43, 47]⟩
theorem abcS_list : abcS.data.toList = abc := rfl
theorem abcS_size : abcS.size = 64 := rfl
theorem abcS_low (i : Nat) (h : i < abcS.size) : (abcS[i]'h).toNat < 128 := by
  have : ∀ i : Fin 64, (abcS[i.val]'(by have := i.isLt; exact this)).toNat < 128 := by decide
  exact this ⟨i, h⟩
theorem abc_low : ∀ b ∈ abc, b.toNat < 128 := by decide
theorem indexByte_high (l : List UInt8) (hl : ∀ b ∈ l, b.toNat < 128) (c : UInt8) (hc : 128 ≤ c.toNat) : Lib.indexByte l c = -1 := by
  induction l with
  | nil => rfl
  | cons b l ih =>
    unfold Lib.indexByte
    have hb := hl b (List.mem_cons_self ..)
    rw [if_neg (by intro e; have := eq_of_beq e; subst this; omega), ih fun x hx => hl x (List.mem_cons_of_mem _ hx)]
    rfl
theorem validRune_spec (r : Nat) (w : World) : Cal Tryd.prog 23 #[.int .i32 r] w fun v w' => v = .bool (decide (r < 55296 ∨ 57343 < r ∧ r ≤ 1114111)) ∧ w' = w := by
  refine enter Tryd.mixed Tryd.func23 rfl (by kernel_rfl) ?_
  by_cases h1 : r < 55296
  · have i1 : (r : Int) < 55296 := by omega
    simp -dsimp [go_sem, h1, i1]
  · have i1 : ¬ (r : Int) < 55296 := by omega
    by_cases h2 : 57343 < r
    · have i2 : (57343 : Int) < (r : Int) := by omega
      by_cases h3 : r ≤ 1114111
      · have i3 : (r : Int) ≤ 1114111 := by omega
        simp -dsimp [go_sem, h1, h2, h3, i1, i2, i3]
      · have i3 : ¬ (r : Int) ≤ 1114111 := by omega
        simp -dsimp [go_sem, h1, h2, h3, i1, i2, i3]
    · have i2 : ¬ (57343 : Int) < (r : Int) := by omega
      simp -dsimp [go_sem, h1, h2, i1, i2]
theorem indexRune_spec (r : Nat) (w : World) (hr : r ≤ 2147483647) : Cal Tryd.prog 15 #[.string abcS, .int .i32 r] w fun v w' => v = i64 (if r < 128 then idx r.toUInt8 else -1) ∧ Nw w w' := by
  refine enter Tryd.mixed Tryd.func15 rfl (by kernel_rfl) ?_
  by_cases h1 : r < 128
  · have hw : IntKind.u8.wrap (r : Int) = (r : Int) := by rw [IntKind.wrap_u8']; omega
    have i1 : (r : Int) < 128 := by omega
    simp -dsimp [go_sem, h1, i1, hw]
    refine call (indexByte_spec abcS r w) ?_
    rintro v w' ⟨rfl, rfl⟩
    simp -dsimp [go_sem, h1]
    exact ⟨rfl, Kp.refl _ _⟩
  · have i1 : ¬ (r : Int) < 128 := by omega
    by_cases h2 : r = 65533
    · subst h2
      simp -dsimp [go_sem]
      refine loop [4, 5, 6, 176, 177, 178, 179, 180, 181, 182] (by kernel_rfl) (fun f w' => ∃ p : Nat, p ≤ 64 ∧ w' = w.iter abcS p) (fun f w' => 64 - w'.iterPos w.heap.size) ⟨0, by omega, rfl⟩ ?_
      rintro f w' ⟨p, hp, rfl⟩
      by_cases hlt : p < 64
      · have hn := fun ty => run_next_ascii (P := Tryd.prog) w abcS p ty hlt (abcS_low p hlt)
        have hlo := abcS_low p hlt
        generalize (abcS[p]'hlt).toNat = c at *
        have hc : ((c : Int) == 65533) = false := by simp; omega
        simp -dsimp [go_sem, hn, hc]
        exact ⟨⟨p + 1, by omega, rfl⟩, by omega⟩
      · obtain rfl : p = 64 := by omega
        have hn := fun ty => run_next_end (P := Tryd.prog) w abcS 64 ty (by rw [abcS_size]; omega)
        simp -dsimp [go_sem, hn]
        exact (Kp.refl _ _).alloc _
    · have h2' : ((r : Int) == 65533) = false := by simp; omega
      simp -dsimp [go_sem, h1, i1, h2']
      refine call (validRune_spec r w) ?_
      rintro v w' ⟨rfl, rfl⟩
      by_cases hv : r < 55296 ∨ 57343 < r ∧ r ≤ 1114111
      · have hval : Utf8.valid (r : Int) = true := by unfold Utf8.valid; simp; omega
        obtain ⟨e1, e2, e3⟩ := encode_facts (r : Int) hval (by omega)
        obtain ⟨z, hz⟩ : ∃ z, Utf8.encode (r : Int) = z := ⟨_, rfl⟩
        rw [hz] at e1 e2
        simp only [hz] at e3
        obtain ⟨m, hm⟩ : ∃ m, z.size = m + 1 := ⟨z.size - 1, by omega⟩
        have hw : IntKind.i64.wrap ((z.size : Int) - 1) = (m : Int) := by rw [w64 (by omega) (by omega)]; omega
        have hmz : m < z.size := by omega
        have e4 : 128 ≤ (z[m]'hmz).toNat := by
          have e3 := e3 (by omega)
          simp only [hm, Nat.add_sub_cancel] at e3
          exact e3
        simp -dsimp [go_sem, hv]
        refine scope0 Tryd.mixed ?_
        simp -dsimp [go_sem, hz, hw]
        refine loop [4, 9, 10, 11, 12, 23, 24, 25, 26, 27, 28, 29, 30, 31, 32, 33, 34, 35, 36, 37, 38, 39, 40, 41, 42, 43, 44, 45, 46, 47, 48, 49, 50, 51, 52, 53, 54, 55, 56, 57, 58, 59, 60, 61, 62, 63, 64, 65, 66, 67, 68, 69, 70, 71, 72, 73, 74, 75, 76, 77, 78, 79, 80, 81, 82, 83, 84, 85, 86, 87, 88, 89, 90, 91, 92, 93, 94, 95, 96, 97, 98] (by kernel_rfl) (fun f w1 => f 9 = i64 m ∧ w1 = w') (fun _ _ => 0) ⟨by simp [upd], rfl⟩ ?_
        rintro f w1 ⟨f9, rfl⟩
        have hm64 : (m : Int) < 64 := by omega
        simp -dsimp [go_sem, f9, hm64]
        refine scope0 Tryd.mixed ?_
        simp -dsimp [go_sem]
        have hx : ∃ c, ∃ hs : m < abcS.size, abcS[m]'hs = c ∧ c.toNat < 128 := ⟨_, by show m < 64; omega, rfl, abcS_low m (by show m < 64; omega)⟩
        obtain ⟨c, hs, hc, hcl⟩ := hx
        have hne : ((c.toNat : Int) != ((z[m]'hmz).toNat : Int)) = true := by simp; omega
        refine draw (.take 0 (.take 1 (.take 2 (.take 3 (.take 4 (.take 5 (.take 6 .done))))))) (by kernel_rfl) (fun _ => True) trivial ?_
        simp -dsimp [go_sem, f9, hm64, hc, hmz, hne]
        have hm1 : IntKind.i64.wrap ((m : Int) + 1) = ((m + 1 : Nat) : Int) := by rw [w64 (by omega) (by omega)]; omega
        obtain ⟨y, hy⟩ : ∃ y, abcS.extract (m + 1) 64 = y := ⟨_, rfl⟩
        have hyl : ∀ b ∈ y.data.toList, b.toNat < 128 := by
          rw [← hy, show abcS = ⟨abc.toArray⟩ from rfl, Lib.extract_mk]
          intro b hb
          exact abc_low b (List.mem_of_mem_drop (List.mem_of_mem_take hb))
        obtain ⟨m1, hm1'⟩ : ∃ m1, m1 = m + 1 := ⟨_, rfl⟩
        rw [← hm1'] at hm1 hy
        have hm1l : m1 ≤ 64 := by omega
        have hm1i : (m1 : Int) ≤ 64 := by omega
        refine draw (.take 0 (.take 1 (.take 2 (.take 3 (.take 4 (.take 5 (.take 6 (.alt 7 (.take 8 .done) .stop)))))))) (by kernel_rfl) (fun w2 => Nw w1 w2) (((Kp.refl _ _).drew).drew) ?_
        simp -dsimp [go_sem, f9, hm1, hm1l, hm1i, hmz, hy]
        refine call (indexByte_spec y _ _) ?_
        rintro v w2 ⟨rfl, rfl⟩
        have e5 : Lib.indexByte y.data.toList (((z[m]'hmz).toNat : Int).toNat.toUInt8) = -1 := by
          rw [Int.toNat_natCast]
          refine indexByte_high _ hyl _ ?_
          simpa using e4
        rw [e5]
        refine ⟨((Kp.refl _ _).drew).drew, ?_⟩
        simp -dsimp [go_sem]
        exact ⟨fun h => absurd h h1, ((Kp.refl _ _).drew).drew⟩
      · simp -dsimp [go_sem, hv, h1]
        exact Kp.refl _ _
end Go.Proofs.YthdbppggnkfgjaaDoor
