/-
  A change told: the pass, the UIDs. By the session itself. A change told: the UIDs. By the session itself. A change told: named, isNamed, isChange walked. By the session itself. A change told: isNamed, isChange walked. By the session itself.
-/
import Derived.Test.YtipdndmfngpbfaaGreatDoorQ11
import Derived.Test.YtipdndmfngpbfaaGreatDoorQ03
import Derived.Test.YtipdndmfngpbfaaGreatDoorQ10
import Derived.Laws.RangeString
import Derived.Laws.RangeAny
import Derived.Shelf.GgClosure.StringsRunes
import Derived.Test.YtipdndmfngpbfaaGreatDoorQ21
namespace Go.Proofs.YtipdndmfngpbfaaGreatDoor
set_option linter.unusedSimpArgs false
set_option linter.unusedVariables false
set_option maxRecDepth 100000
set_option maxHeartbeats 1000000
open Go.Vc Go.RowKit

def badR (x : Nat) : Bool := decide (x < 33) || decide (126 < x)
theorem idx_pass (s : ByteArray) : ∀ (f pos : Nat), s.size ≤ pos + f → (Lib.idxFuncFrom badR true s f pos < 0 ↔ ∀ j, pos ≤ j → (h : j < s.size) → passB (s[j]'h) = true)
  | 0, pos, hf => by
    unfold Lib.idxFuncFrom
    exact ⟨fun _ j h1 h2 => by omega, fun _ => by decide⟩
  | f + 1, pos, hf => by
    unfold Lib.idxFuncFrom
    by_cases hp : pos < s.size
    · rw [if_pos hp]
      by_cases ha : (s[pos]'hp).toNat < 128
      · have hd := Go.decode_ascii s pos hp ha
        rw [hd]
        simp only
        by_cases hb : badR (s[pos]'hp).toNat = true
        · rw [if_pos hb]
          refine ⟨fun h => by omega, fun h => ?_⟩
          have := h pos (Nat.le_refl _) hp
          simp only [passB, badR, Bool.and_eq_true, Bool.or_eq_true, decide_eq_true_eq] at this hb
          omega
        · rw [if_neg hb]
          rw [idx_pass s f (pos + 1) (by omega)]
          refine ⟨fun h j h1 h2 => ?_, fun h j h1 h2 => h j (by omega) h2⟩
          by_cases hj : j = pos
          · subst hj
            simp only [passB, badR, Bool.and_eq_true, Bool.or_eq_true, decide_eq_true_eq, not_or] at hb ⊢
            omega
          · exact h j (by omega) h2
      · have hd := Go.decode_high s pos hp (by omega)
        have hb : badR (Utf8.decode s pos).1 = true := by
          simp only [badR, Bool.or_eq_true, decide_eq_true_eq]
          omega
        rw [if_pos hb]
        refine ⟨fun h => by omega, fun h => ?_⟩
        have := h pos (Nat.le_refl _) hp
        simp only [passB, Bool.and_eq_true, decide_eq_true_eq] at this
        omega
    · rw [if_neg hp]
      exact ⟨fun _ j h1 h2 => by omega, fun _ => by decide⟩
theorem idx_all (l : Nm) : decide (Lib.idxFunc badR true ⟨l.toArray⟩ < 0) = l.all passB := by
  rw [Bool.eq_iff_iff, decide_eq_true_iff, List.all_eq_true]
  unfold Lib.idxFunc
  rw [idx_pass _ _ 0 (by omega)]
  have hs : (⟨l.toArray⟩ : ByteArray).size = l.length := by simp [ByteArray.size]
  constructor
  · intro h x hx
    obtain ⟨j, hj, rfl⟩ := List.getElem_of_mem hx
    exact h j (Nat.zero_le _) (by rw [hs]; exact hj)
  · intro h j _ hj
    exact h _ (List.getElem_mem (by rw [← hs]; exact hj))
theorem pass1_spec (x : Nat) (w : World) (hx : x ≤ 1114111) : Cal Tryz.prog 145 #[.int .i32 x] w fun v w' => v = .bool (badR x) ∧ w' = w := by
  refine enter Tryz.mixed Tryz.func145 rfl (by kernel_rfl) ?_
  unfold badR
  by_cases h1 : x < 33
  · have h1' : (x : Int) < 33 := by omega
    simp -dsimp [go_sem, h1, h1']
  · have h1' : ¬ (x : Int) < 33 := by omega
    by_cases h2 : 126 < x
    · have h2' : (126 : Int) < (x : Int) := by omega
      simp -dsimp [go_sem, h1, h1', h2, h2']
    · have h2' : ¬ (126 : Int) < (x : Int) := by omega
      simp -dsimp [go_sem, h1, h1', h2, h2']
theorem idxf_spec (l : Nm) (w : World) : Cal Tryz.prog 144 #[str l, .func (.func 145) #[] #[]] w fun v w' => v = i64 (Lib.idxFunc badR true ⟨l.toArray⟩) ∧ Nw w w' := by
  have hp : PredAtRunes Tryz.prog 145 #[] badR w := fun W x hx _ => by
    refine Calls.mono (pass1_spec x W hx) ?_
    rintro e w' ⟨v, rfl, rfl, rfl⟩
    exact ⟨rfl, 0, rfl⟩
  have h := Go.Proofs.Any.strings_IndexFunc_runes Tryz.idxf144 145 #[] (enters_of Tryz.func145 (by kernel_rfl) rfl) badR ⟨l.toArray⟩ w hp
  refine Calls.mono h ?_
  rintro e w' ⟨rfl, b1, b2, b3, b4, b5⟩
  exact ⟨_, rfl, rfl, ⟨b1, b2, b3, b4, fun k hk _ => b5 k hk⟩⟩
theorem pass_spec (l : Nm) (w : World) (hl : l.length ≤ 9223372036854775807) : Cal Tryz.prog 84 #[str l] w fun v w' => v = .bool (passOk l) ∧ Nw w w' := by
  have hx := idx_all l
  have hidx := idxf_spec l w
  refine enter Tryz.mixed Tryz.func84 rfl (by kernel_rfl) ?_
  by_cases h0 : l.length = 0
  · have hs : l = [] := List.eq_nil_of_length_eq_zero h0
    subst hs
    simp -dsimp [go_sem]
    exact ⟨by rfl, Kp.refl _ _⟩
  · have hne : l.isEmpty = false := by cases l <;> simp_all
    have hnn : ¬ l = [] := fun e => by subst e; exact h0 rfl
    by_cases h12 : l.length ≤ 12
    · have h12' : (l.length : Int) ≤ 12 := by omega
      have hr : passOk l = l.all passB := by unfold passOk; rw [decide_eq_true h12, decide_eq_true (show 1 ≤ l.length by omega)]; rfl
      simp -dsimp [go_sem, hne, hnn, h12, h12']
      refine call hidx ?_
      rintro v w1 ⟨rfl, k1⟩
      rw [hr, ← hx]
      generalize Lib.idxFunc badR true ⟨l.toArray⟩ = k at *
      simp -dsimp [go_sem]
      exact k1
    · have h12' : ¬ (l.length : Int) ≤ 12 := by omega
      have hr : passOk l = false := by unfold passOk; rw [decide_eq_false h12]; simp
      simp -dsimp [go_sem, hne, hnn, h12, h12']
      exact ⟨hr, Kp.refl _ _⟩
theorem sin_spec (n lo hi : Int) (w : World) : Cal Tryz.prog 85 #[i64 n, i64 lo, i64 hi] w fun v w' => v = .bool (okF n lo hi) ∧ w' = w := by
  refine enter Tryz.mixed Tryz.func85 rfl (by kernel_rfl) ?_
  by_cases h1 : lo ≤ n
  · simp -dsimp [go_sem, h1, okF]
  · simp -dsimp [go_sem, h1, okF]
end Go.Proofs.YtipdndmfngpbfaaGreatDoor

namespace Go.Proofs.YtipdndmfngpbfaaGreatDoor
set_option linter.unusedSimpArgs false
set_option linter.unusedVariables false
set_option maxRecDepth 100000
set_option maxHeartbeats 1000000
open Go.Vc Go.RowKit

theorem riseU_bad {l : List Int} : ∀ {n i : Nat}, i < n → stepU l i = false → riseU l n = false
  | 0, i, h, _ => by omega
  | n + 1, i, h, hs => by
    simp only [riseU]
    by_cases hi : i = n
    · subst hi; rw [hs, Bool.and_false]
    · rw [riseU_bad (show i < n by omega) hs, Bool.false_and]
theorem suids_spec (l : List Int) (A : Option Addr) (c : Nat) (w : World) (hr : Rd w A (l.map i64)) (hl : l.length ≤ 9223372036854775807) (hb : ∀ n ∈ l, -9223372036854775808 ≤ n ∧ n ≤ 9223372036854775807) :
    Cal Tryz.prog 87 #[.slice A l.length c] w fun v w' => v = .bool (uidsOk l) ∧ w' = w := by
  refine enter Tryz.mixed Tryz.func87 rfl (by kernel_rfl) ?_
  simp -dsimp [go_sem]
  refine loop [2, 3, 4, 7, 8, 9, 10, 11, 12, 13, 14, 15, 16, 17, 18, 19, 20, 21, 22, 23, 24, 25, 26, 27, 28] (by kernel_rfl)
    (fun f w' => Box1 (fun a w' => ∃ i : Nat, a = i64 i ∧ i ≤ l.length ∧ riseU l i = true ∧ w' = w) (f 7) w') (fun f _ => l.length - (intOf (f 7)).toNat) ⟨0, rfl, Nat.zero_le _, rfl, rfl⟩ ?_
  rintro f w' ⟨i, f7, hi, hri, rfl⟩
  by_cases hlt : i < l.length
  · obtain ⟨ga, o, rfl, e0⟩ := hr i (i64 l[i]) (by simp [hlt])
    have hi1 : IntKind.i64.wrap ((i : Int) + 1) = ((i + 1 : Nat) : Int) := by rw [w64 (by omega) (by omega)]; omega
    have hstep : stepU l i = (okF l[i] 1 1048576 && (decide (i = 0) || decide (l.getD (i - 1) 0 < l[i]))) := by
      unfold stepU
      rw [List.getD_eq_getElem?_getD, List.getElem?_eq_getElem hlt]; rfl
    have bad : stepU l i = false → uidsOk l = false := fun h => by unfold uidsOk; rw [riseU_bad hlt h, Bool.false_and]
    have good : stepU l i = true → riseU l (i + 1) = true := fun h => by simp only [riseU]; rw [hri, h]; rfl
    obtain ⟨i1, hi1'⟩ : ∃ i1, i1 = i + 1 := ⟨_, rfl⟩
    rw [← hi1'] at hi1 good
    by_cases h0 : i = 0
    · subst h0
      rw [Nat.add_zero] at e0
      have hi1b : IntKind.i64.wrap 1 = (i1 : Int) := by rw [w64 (by omega) (by omega)]; omega
      generalize l[0] = m at *
      simp -dsimp [go_sem, f7, hlt, e0]
      refine call (sin_spec m 1 1048576 _) ?_
      rintro v w2 ⟨rfl, e⟩
      obtain rfl := e.symm
      cases hm : okF m 1 1048576 with
      | false =>
        simp -dsimp [go_sem]
        exact bad (by rw [hstep, hm]; rfl)
      | true =>
        simp -dsimp [go_sem, f7, hi1, hi1b]
        exact ⟨⟨i1, rfl, by omega, good (by rw [hstep, hm]; rfl), rfl⟩, by simp [intOf]; omega⟩
    · obtain ⟨k, hk⟩ : ∃ k, i = k + 1 := ⟨i - 1, by omega⟩
      have hkl : k < l.length := by omega
      obtain ⟨gb, o2, ho, e1⟩ := hr k (i64 l[k]) (by simp [hkl])
      cases ho
      have hpos : (0 : Int) < (i : Int) := by omega
      have hposN : 0 < i := by omega
      have hw : IntKind.i64.wrap ((i : Int) - 1) = (k : Int) := by rw [w64 (by omega) (by omega)]; omega
      have hgd : l.getD (i - 1) 0 = l[k] := by rw [show i - 1 = k by omega, List.getD_eq_getElem?_getD, List.getElem?_eq_getElem hkl]; rfl
      rw [hgd, decide_eq_false h0, Bool.false_or] at hstep
      generalize l[i] = m at *
      generalize l[k] = p at *
      simp -dsimp [go_sem, f7, hlt, e0]
      refine call (sin_spec m 1 1048576 _) ?_
      rintro v w2 ⟨rfl, e⟩
      obtain rfl := e.symm
      cases hm : okF m 1 1048576 with
      | false =>
        simp -dsimp [go_sem]
        exact bad (by rw [hstep, hm]; rfl)
      | true =>
        by_cases hpm : p < m
        · have hpm' : ¬ m ≤ p := by omega
          simp -dsimp [go_sem, f7, hi1, h0, hpos, hposN, hw, hkl, e1, hpm, hpm']
          exact ⟨⟨i1, rfl, by omega, good (by rw [hstep, hm, decide_eq_true hpm]; rfl), rfl⟩, by simp [intOf]; omega⟩
        · have hpm' : m ≤ p := by omega
          simp -dsimp [go_sem, h0, hpos, hposN, hw, hkl, e1, hpm, hpm']
          exact bad (by rw [hstep, hm, decide_eq_false hpm]; rfl)
  · obtain rfl : i = l.length := by omega
    have hfin : uidsOk l = decide (l.length ≤ 24) := by unfold uidsOk; rw [hri]; rfl
    by_cases h24 : l.length ≤ 24
    · have h24' : (l.length : Int) ≤ 24 := by omega
      simp -dsimp [go_sem, f7, hlt, h24, h24']
      rw [hfin]; simpa using h24
    · have h24' : ¬ (l.length : Int) ≤ 24 := by omega
      simp -dsimp [go_sem, f7, hlt, h24, h24']
      rw [hfin]; simpa using h24
end Go.Proofs.YtipdndmfngpbfaaGreatDoor

namespace Go.Proofs.YtipdndmfngpbfaaGreatDoor
set_option linter.unusedSimpArgs false
set_option linter.unusedVariables false
set_option maxRecDepth 100000
set_option maxHeartbeats 1000000
open Go.Vc Go.RowKit

/-- A change without what its kind does not name. -/
def nameC (c : Chg) : Chg :=
  if c.kind = 1 then ⟨c.kind, c.user, c.pass, [], [], [], 0, 0, 0, []⟩ else if c.kind = 4 then ⟨c.kind, c.user, [], c.box, c.to, [], 0, 0, 0, []⟩ else
  if c.kind = 5 then ⟨c.kind, c.user, [], c.box, [], [], 0, c.flags, c.date, c.body⟩ else if c.kind = 6 then ⟨c.kind, c.user, [], c.box, [], c.uids, c.mode, c.flags, 0, []⟩ else
  if c.kind = 7 then ⟨c.kind, c.user, [], c.box, [], c.uids, 0, 0, 0, []⟩ else if c.kind = 8 then ⟨c.kind, c.user, [], c.box, c.to, c.uids, 0, 0, 0, []⟩ else ⟨c.kind, c.user, [], c.box, [], [], 0, 0, 0, []⟩
/-- Are they one, but for what lies in the slices? -/
def sameC (c x : Chg) : Bool := (c.box == x.box) && ((c.pass == x.pass) && ((c.to == x.to) && (((c.uids.length : Int) == (x.uids.length : Int)) && ((c.mode == x.mode) && ((c.flags == x.flags) && ((c.date == x.date) && ((c.body.length : Int) == (x.body.length : Int))))))))
theorem sameC_named (c : Chg) : sameC c (nameC c) = namedOk c := by
  have hl : ∀ {α : Type} (l : List α), ((l.length : Int) == 0) = decide (l = []) := fun l => by
    cases l with
    | nil => rfl
    | cons a l => simp; omega
  have he : ∀ (l : Nm), l.isEmpty = decide (l = []) := fun l => by cases l <;> rfl
  have hz : ∀ n : Int, (n == 0) = decide (n = 0) := fun n => rfl
  unfold sameC nameC namedOk toK manyK
  by_cases h1 : c.kind = 1
  · simp [h1, hl, he, hz]
  · by_cases h4 : c.kind = 4
    · simp [h4, hl, he, hz]
    · by_cases h5 : c.kind = 5
      · simp [h5, hl, he, hz]
      · by_cases h6 : c.kind = 6
        · simp [h6, hl, he, hz]
        · by_cases h7 : c.kind = 7
          · simp [h7, hl, he, hz]
          · by_cases h8 : c.kind = 8
            · simp [h8, hl, he, hz]
            · simp [h1, h4, h5, h6, h7, h8, hl, he, hz]
/-- A change, as a value. -/
def ChV (v : Value) (c : Chg) : Prop := ∃ A ca B cb, v = .agg (chV c A ca B cb)
theorem named_spec (v : Value) (c : Chg) (w : World) (h : ChV v c) : Cal Tryz.prog 146 #[v] w fun v' w' => ChV v' (nameC c) ∧ Nw w w' := by
  obtain ⟨A, ca, B, cb, rfl⟩ := h
  refine enter Tryz.mixed Tryz.func146 rfl (by kernel_rfl) ?_
  simp -dsimp [go_sem]
  obtain ⟨y, hy', hy, hb, hsz, n0⟩ := two_new w 25 25 (chV c A ca B cb) #[.int .i64 0, .string ⟨#[]⟩, .string ⟨#[]⟩, .string ⟨#[]⟩, .string ⟨#[]⟩, .slice none 0 0, .int .i64 0, .int .i64 0, .int .i64 0, .slice none 0 0]
  obtain ⟨z, hz'⟩ : ∃ z, z = y + 1 := ⟨_, rfl⟩
  rw [← hz'] at hb
  rw [← hy', ← hz']
  generalize (w.alloc (.cells (chV c A ca B cb) 25)).alloc (.cells #[.int .i64 0, .string ⟨#[]⟩, .string ⟨#[]⟩, .string ⟨#[]⟩, .string ⟨#[]⟩, .slice none 0 0, .int .i64 0, .int .i64 0, .int .i64 0, .slice none 0 0] 25) = wa at *
  have y0 := (hy).cell 0
  have y1 := (hy).cell 1
  have y2 := (hy).cell 2
  have y3 := (hy).cell 3
  have y4 := (hy).cell 4
  have y5 := (hy).cell 5
  have y6 := (hy).cell 6
  have y7 := (hy).cell 7
  have y8 := (hy).cell 8
  have y9 := (hy).cell 9
  simp [go_sem]
  have hx0 := Blk.new wa 25 #[i64 c.kind, str c.user, .string ⟨#[]⟩, str c.box, .string ⟨#[]⟩, .slice none 0 0, i64 0, i64 0, i64 0, .slice none 0 0]
  have ka : Nw wa (wa.alloc (.cells #[i64 c.kind, str c.user, .string ⟨#[]⟩, str c.box, .string ⟨#[]⟩, .slice none 0 0, i64 0, i64 0, i64 0, .slice none 0 0] 25)) := (Kp.refl _ _).alloc _
  have hsx : (wa.alloc (.cells #[i64 c.kind, str c.user, .string ⟨#[]⟩, str c.box, .string ⟨#[]⟩, .slice none 0 0, i64 0, i64 0, i64 0, .slice none 0 0] 25)).heap.size = wa.heap.size + 1 := by simp
  obtain ⟨x, hx'⟩ : ∃ x, x = wa.heap.size := ⟨_, rfl⟩
  rw [← hx'] at hx0 hsx
  clear y0 y1 y2 y3 y4 y5 y6 y7 y8 y9
  have hyx := hy.lt
  have hzx := hb.lt
  have hy := hy.nw ka
  have hb := hb.nw ka
  have n0 := n0.nw ka
  rw [← hx']
  generalize wa.alloc (.cells #[i64 c.kind, str c.user, .string ⟨#[]⟩, str c.box, .string ⟨#[]⟩, .slice none 0 0, i64 0, i64 0, i64 0, .slice none 0 0] 25) = wx at *
  have y0 := (hy).cell 0
  have y1 := (hy).cell 1
  have y2 := (hy).cell 2
  have y3 := (hy).cell 3
  have y4 := (hy).cell 4
  have y5 := (hy).cell 5
  have y6 := (hy).cell 6
  have y7 := (hy).cell 7
  have y8 := (hy).cell 8
  have y9 := (hy).cell 9
  have x0 := (hx0).cell 0
  have x1 := (hx0).cell 1
  have x2 := (hx0).cell 2
  have x3 := (hx0).cell 3
  have x4 := (hx0).cell 4
  have x5 := (hx0).cell 5
  have x6 := (hx0).cell 6
  have x7 := (hx0).cell 7
  have x8 := (hx0).cell 8
  have x9 := (hx0).cell 9
  have xf2 := hx0.frozen 2
  have xf3 := hx0.frozen 3
  have xf4 := hx0.frozen 4
  have xf5 := hx0.frozen 5
  have xf6 := hx0.frozen 6
  have xf7 := hx0.frozen 7
  have xf8 := hx0.frozen 8
  have xf9 := hx0.frozen 9
  have hyx : y ≠ x := by omega
  have b0 := (hb).cell 0
  have b1 := (hb).cell 1
  have b2 := (hb).cell 2
  have b3 := (hb).cell 3
  have b4 := (hb).cell 4
  have b5 := (hb).cell 5
  have b6 := (hb).cell 6
  have b7 := (hb).cell 7
  have b8 := (hb).cell 8
  have b9 := (hb).cell 9
  have b0f := (hb).frozen 0
  have b1f := (hb).frozen 1
  have b2f := (hb).frozen 2
  have b3f := (hb).frozen 3
  have b4f := (hb).frozen 4
  have b5f := (hb).frozen 5
  have b6f := (hb).frozen 6
  have b7f := (hb).frozen 7
  have b8f := (hb).frozen 8
  have b9f := (hb).frozen 9
  by_cases k1 : c.kind = 1
  · have k1' : (c.kind == 1) = true := by simpa using k1
    have e : nameC c = ⟨c.kind, c.user, c.pass, [], [], [], 0, 0, 0, []⟩ := by unfold nameC; rw [if_pos k1]
    simp -dsimp [go_sem, y0, k1']
    refine draw (.take 0 (.take 1 (.take 2 (.alt 3 (.take 4 (.alt 5 .done .stop)) .stop)))) (by kernel_rfl) (fun wz => Kp (At x) wx wz) ((Kp.refl _ _).drew) ?_
    simp -dsimp [go_sem, y0, y1, y2, y3, y4, y5, y6, y7, y8, y9, x0, x1, x2, x3, x4, x5, x6, x7, x8, x9, xf2, xf3, xf4, xf5, xf6, xf7, xf8, xf9, b0, b1, b2, b3, b4, b5, b6, b7, b8, b9, b0f, b1f, b2f, b3f, b4f, b5f, b6f, b7f, b8f, b9f]
    refine ⟨fun wz hz => by simp [hz.cell_some y2 hyx], ?_, ?_, ?_⟩
    · first
      | exact ((Kp.refl _ _).setCell_at _ _).drew
      | exact (((Kp.refl _ _).setCell_at _ _).setCell_at _ _).drew
      | exact ((((Kp.refl _ _).setCell_at _ _).setCell_at _ _).setCell_at _ _).drew
    · first
      | exact ((Kp.refl _ _).setCell_at _ _).drew
      | exact (((Kp.refl _ _).setCell_at _ _).setCell_at _ _).drew
      | exact ((((Kp.refl _ _).setCell_at _ _).setCell_at _ _).setCell_at _ _).drew
    rw [e]
    refine ⟨⟨none, 0, none, 0, rfl⟩, Nw.at_ (F := fun k => k = x ∨ k = z) n0 ?_ (fun k hk => by omega)⟩
    try with_reducible refine Kp.drew ?_
    repeat (first | with_reducible exact Kp.refl _ _ | with_reducible refine Kp.setCell ?_ _ _ (.inr (by first | exact .inl rfl | exact .inr rfl)))
  have k1' : (c.kind == 1) = false := by simpa using k1
  by_cases k4 : c.kind = 4
  · have k4' : (c.kind == 4) = true := by simpa using k4
    have e : nameC c = ⟨c.kind, c.user, [], c.box, c.to, [], 0, 0, 0, []⟩ := by unfold nameC; rw [if_neg k1]; rw [if_pos k4]
    have kk := k4'
    simp -dsimp [go_sem, k1', k4', y0, y1, y2, y3, y4, y5, y6, y7, y8, y9, x0, x1, x2, x3, x4, x5, x6, x7, x8, x9, xf2, xf3, xf4, xf5, xf6, xf7, xf8, xf9, b0, b1, b2, b3, b4, b5, b6, b7, b8, b9, b0f, b1f, b2f, b3f, b4f, b5f, b6f, b7f, b8f, b9f]
    rw [e]
    refine ⟨⟨none, 0, none, 0, rfl⟩, Nw.at_ (F := fun k => k = x ∨ k = z) n0 ?_ (fun k hk => by omega)⟩
    try with_reducible refine Kp.drew ?_
    repeat (first | with_reducible exact Kp.refl _ _ | with_reducible refine Kp.setCell ?_ _ _ (.inr (by first | exact .inl rfl | exact .inr rfl)))
  have k4' : (c.kind == 4) = false := by simpa using k4
  by_cases k5 : c.kind = 5
  · have k5' : (c.kind == 5) = true := by simpa using k5
    have e : nameC c = ⟨c.kind, c.user, [], c.box, [], [], 0, c.flags, c.date, c.body⟩ := by unfold nameC; rw [if_neg k1]; rw [if_neg k4]; rw [if_pos k5]
    simp -dsimp [go_sem, y0, k1', k4', k5']
    refine draw (.take 0 (.take 1 (.take 2 (.take 3 (.take 4 (.take 5 (.take 6 (.alt 7 (.take 8 (.alt 9 (.take 10 (.alt 11 .done .stop)) .stop)) .stop)))))))) (by kernel_rfl) (fun wz => Kp (At x) wx wz) ((Kp.refl _ _).drew) ?_
    simp -dsimp [go_sem, y0, y1, y2, y3, y4, y5, y6, y7, y8, y9, x0, x1, x2, x3, x4, x5, x6, x7, x8, x9, xf2, xf3, xf4, xf5, xf6, xf7, xf8, xf9, b0, b1, b2, b3, b4, b5, b6, b7, b8, b9, b0f, b1f, b2f, b3f, b4f, b5f, b6f, b7f, b8f, b9f]
    refine ⟨fun wz hz => by simp [hz.cell_some y7 hyx], fun wz hz => by simp [hz.cell_some y8 hyx], fun wz hz => by simp [hz.cell_some y9 hyx], ?_, ?_, ?_, ?_⟩
    · first
      | exact ((Kp.refl _ _).setCell_at _ _).drew
      | exact (((Kp.refl _ _).setCell_at _ _).setCell_at _ _).drew
      | exact ((((Kp.refl _ _).setCell_at _ _).setCell_at _ _).setCell_at _ _).drew
    · first
      | exact ((Kp.refl _ _).setCell_at _ _).drew
      | exact (((Kp.refl _ _).setCell_at _ _).setCell_at _ _).drew
      | exact ((((Kp.refl _ _).setCell_at _ _).setCell_at _ _).setCell_at _ _).drew
    · first
      | exact ((Kp.refl _ _).setCell_at _ _).drew
      | exact (((Kp.refl _ _).setCell_at _ _).setCell_at _ _).drew
      | exact ((((Kp.refl _ _).setCell_at _ _).setCell_at _ _).setCell_at _ _).drew
    rw [e]
    refine ⟨⟨none, 0, B, cb, rfl⟩, Nw.at_ (F := fun k => k = x ∨ k = z) n0 ?_ (fun k hk => by omega)⟩
    try with_reducible refine Kp.drew ?_
    repeat (first | with_reducible exact Kp.refl _ _ | with_reducible refine Kp.setCell ?_ _ _ (.inr (by first | exact .inl rfl | exact .inr rfl)))
  have k5' : (c.kind == 5) = false := by simpa using k5
  by_cases k6 : c.kind = 6
  · have k6' : (c.kind == 6) = true := by simpa using k6
    have e : nameC c = ⟨c.kind, c.user, [], c.box, [], c.uids, c.mode, c.flags, 0, []⟩ := by unfold nameC; rw [if_neg k1]; rw [if_neg k4]; rw [if_neg k5]; rw [if_pos k6]
    simp -dsimp [go_sem, y0, k1', k4', k5', k6']
    refine draw (.take 0 (.take 1 (.take 2 (.take 3 (.take 4 (.take 5 (.take 6 (.alt 7 (.take 8 (.alt 9 (.take 10 (.alt 11 .done .stop)) .stop)) .stop)))))))) (by kernel_rfl) (fun wz => Kp (At x) wx wz) ((Kp.refl _ _).drew) ?_
    simp -dsimp [go_sem, y0, y1, y2, y3, y4, y5, y6, y7, y8, y9, x0, x1, x2, x3, x4, x5, x6, x7, x8, x9, xf2, xf3, xf4, xf5, xf6, xf7, xf8, xf9, b0, b1, b2, b3, b4, b5, b6, b7, b8, b9, b0f, b1f, b2f, b3f, b4f, b5f, b6f, b7f, b8f, b9f]
    refine ⟨fun wz hz => by simp [hz.cell_some y5 hyx], fun wz hz => by simp [hz.cell_some y6 hyx], fun wz hz => by simp [hz.cell_some y7 hyx], ?_, ?_, ?_, ?_⟩
    · first
      | exact ((Kp.refl _ _).setCell_at _ _).drew
      | exact (((Kp.refl _ _).setCell_at _ _).setCell_at _ _).drew
      | exact ((((Kp.refl _ _).setCell_at _ _).setCell_at _ _).setCell_at _ _).drew
    · first
      | exact ((Kp.refl _ _).setCell_at _ _).drew
      | exact (((Kp.refl _ _).setCell_at _ _).setCell_at _ _).drew
      | exact ((((Kp.refl _ _).setCell_at _ _).setCell_at _ _).setCell_at _ _).drew
    · first
      | exact ((Kp.refl _ _).setCell_at _ _).drew
      | exact (((Kp.refl _ _).setCell_at _ _).setCell_at _ _).drew
      | exact ((((Kp.refl _ _).setCell_at _ _).setCell_at _ _).setCell_at _ _).drew
    rw [e]
    refine ⟨⟨A, ca, none, 0, rfl⟩, Nw.at_ (F := fun k => k = x ∨ k = z) n0 ?_ (fun k hk => by omega)⟩
    try with_reducible refine Kp.drew ?_
    repeat (first | with_reducible exact Kp.refl _ _ | with_reducible refine Kp.setCell ?_ _ _ (.inr (by first | exact .inl rfl | exact .inr rfl)))
  have k6' : (c.kind == 6) = false := by simpa using k6
  by_cases k7 : c.kind = 7
  · have k7' : (c.kind == 7) = true := by simpa using k7
    have e : nameC c = ⟨c.kind, c.user, [], c.box, [], c.uids, 0, 0, 0, []⟩ := by unfold nameC; rw [if_neg k1]; rw [if_neg k4]; rw [if_neg k5]; rw [if_neg k6]; rw [if_pos k7]
    have kk := k7'
    simp -dsimp [go_sem, k1', k4', k5', k6', k7', y0, y1, y2, y3, y4, y5, y6, y7, y8, y9, x0, x1, x2, x3, x4, x5, x6, x7, x8, x9, xf2, xf3, xf4, xf5, xf6, xf7, xf8, xf9, b0, b1, b2, b3, b4, b5, b6, b7, b8, b9, b0f, b1f, b2f, b3f, b4f, b5f, b6f, b7f, b8f, b9f]
    rw [e]
    refine ⟨⟨A, ca, none, 0, rfl⟩, Nw.at_ (F := fun k => k = x ∨ k = z) n0 ?_ (fun k hk => by omega)⟩
    try with_reducible refine Kp.drew ?_
    repeat (first | with_reducible exact Kp.refl _ _ | with_reducible refine Kp.setCell ?_ _ _ (.inr (by first | exact .inl rfl | exact .inr rfl)))
  have k7' : (c.kind == 7) = false := by simpa using k7
  by_cases k8 : c.kind = 8
  · have k8' : (c.kind == 8) = true := by simpa using k8
    have e : nameC c = ⟨c.kind, c.user, [], c.box, c.to, c.uids, 0, 0, 0, []⟩ := by unfold nameC; rw [if_neg k1]; rw [if_neg k4]; rw [if_neg k5]; rw [if_neg k6]; rw [if_neg k7]; rw [if_pos k8]
    simp -dsimp [go_sem, y0, k1', k4', k5', k6', k7', k8']
    refine draw (.take 0 (.take 1 (.take 2 (.take 3 (.take 4 (.alt 5 (.take 6 (.alt 7 .done .stop)) .stop)))))) (by kernel_rfl) (fun wz => Kp (At x) wx wz) ((Kp.refl _ _).drew) ?_
    simp -dsimp [go_sem, y0, y1, y2, y3, y4, y5, y6, y7, y8, y9, x0, x1, x2, x3, x4, x5, x6, x7, x8, x9, xf2, xf3, xf4, xf5, xf6, xf7, xf8, xf9, b0, b1, b2, b3, b4, b5, b6, b7, b8, b9, b0f, b1f, b2f, b3f, b4f, b5f, b6f, b7f, b8f, b9f]
    refine ⟨fun wz hz => by simp [hz.cell_some y5 hyx], fun wz hz => by simp [hz.cell_some y4 hyx], ?_, ?_, ?_⟩
    · first
      | exact ((Kp.refl _ _).setCell_at _ _).drew
      | exact (((Kp.refl _ _).setCell_at _ _).setCell_at _ _).drew
      | exact ((((Kp.refl _ _).setCell_at _ _).setCell_at _ _).setCell_at _ _).drew
    · first
      | exact ((Kp.refl _ _).setCell_at _ _).drew
      | exact (((Kp.refl _ _).setCell_at _ _).setCell_at _ _).drew
      | exact ((((Kp.refl _ _).setCell_at _ _).setCell_at _ _).setCell_at _ _).drew
    rw [e]
    refine ⟨⟨A, ca, none, 0, rfl⟩, Nw.at_ (F := fun k => k = x ∨ k = z) n0 ?_ (fun k hk => by omega)⟩
    try with_reducible refine Kp.drew ?_
    repeat (first | with_reducible exact Kp.refl _ _ | with_reducible refine Kp.setCell ?_ _ _ (.inr (by first | exact .inl rfl | exact .inr rfl)))
  have k8' : (c.kind == 8) = false := by simpa using k8
  have e : nameC c = ⟨c.kind, c.user, [], c.box, [], [], 0, 0, 0, []⟩ := by unfold nameC; rw [if_neg k1]; rw [if_neg k4]; rw [if_neg k5]; rw [if_neg k6]; rw [if_neg k7]; rw [if_neg k8]
  simp -dsimp [go_sem, k1', k4', k5', k6', k7', k8', y0, y1, y2, y3, y4, y5, y6, y7, y8, y9, x0, x1, x2, x3, x4, x5, x6, x7, x8, x9, xf2, xf3, xf4, xf5, xf6, xf7, xf8, xf9, b0, b1, b2, b3, b4, b5, b6, b7, b8, b9, b0f, b1f, b2f, b3f, b4f, b5f, b6f, b7f, b8f, b9f]
  rw [e]
  refine ⟨⟨none, 0, none, 0, rfl⟩, Nw.at_ (F := fun k => k = x ∨ k = z) n0 ?_ (fun k hk => by omega)⟩
  try with_reducible refine Kp.drew ?_
  repeat (first | with_reducible exact Kp.refl _ _ | with_reducible refine Kp.setCell ?_ _ _ (.inr (by first | exact .inl rfl | exact .inr rfl)))
end Go.Proofs.YtipdndmfngpbfaaGreatDoor

namespace Go.Proofs.YtipdndmfngpbfaaGreatDoor
set_option linter.unusedSimpArgs false
set_option linter.unusedVariables false
set_option maxRecDepth 100000
set_option maxHeartbeats 1000000
open Go.Vc Go.RowKit

theorem isNamed_spec (v : Value) (c : Chg) (w : World) (h : ChV v c) : Cal Tryz.prog 86 #[v] w fun v' w' => v' = .bool (namedOk c) ∧ Nw w w' := by
  have hV := h
  rw [← sameC_named c]
  obtain ⟨A, ca, B, cb, rfl⟩ := h
  refine enter Tryz.mixed Tryz.func86 rfl (by kernel_rfl) ?_
  simp -dsimp [go_sem]
  have k0 : Nw w (w.alloc (.cells (chV c A ca B cb) 25)) := (Kp.refl _ _).alloc _
  have hy := Blk.new w 25 (chV c A ca B cb)
  obtain ⟨y, hy'⟩ : ∃ y, y = w.heap.size := ⟨_, rfl⟩
  rw [← hy'] at hy ⊢
  generalize w.alloc (.cells (chV c A ca B cb) 25) = wa at *
  refine call (named_spec _ c wa hV) ?_
  rintro v w1 ⟨⟨A', ca', B', cb', rfl⟩, k1⟩
  obtain ⟨x, hx⟩ : ∃ x, x = nameC c := ⟨_, rfl⟩
  rw [← hx]
  have n1 := k0.nw k1
  have ka : Nw w1 (w1.alloc (.cells (chV x A' ca' B' cb') 25)) := (Kp.refl _ _).alloc _
  have hz := Blk.new w1 25 (chV x A' ca' B' cb')
  have hyb := (hy.nw k1).nw ka
  have n2 := n1.nw ka
  simp -dsimp [go_sem]
  obtain ⟨z, hz'⟩ : ∃ z, z = w1.heap.size := ⟨_, rfl⟩
  rw [← hz'] at hz ⊢
  generalize w1.alloc (.cells (chV x A' ca' B' cb') 25) = w2 at *
  have y0 := (hyb).cell 0
  have y1 := (hyb).cell 1
  have y2 := (hyb).cell 2
  have y3 := (hyb).cell 3
  have y4 := (hyb).cell 4
  have y5 := (hyb).cell 5
  have y6 := (hyb).cell 6
  have y7 := (hyb).cell 7
  have y8 := (hyb).cell 8
  have y9 := (hyb).cell 9
  have z0 := (hz).cell 0
  have z1 := (hz).cell 1
  have z2 := (hz).cell 2
  have z3 := (hz).cell 3
  have z4 := (hz).cell 4
  have z5 := (hz).cell 5
  have z6 := (hz).cell 6
  have z7 := (hz).cell 7
  have z8 := (hz).cell 8
  have z9 := (hz).cell 9
  obtain ⟨ul, hul⟩ : ∃ ul, ul = c.uids.length := ⟨_, rfl⟩
  obtain ⟨bl, hbl⟩ : ∃ bl, bl = c.body.length := ⟨_, rfl⟩
  obtain ⟨ul', hul'⟩ : ∃ ul, ul = x.uids.length := ⟨_, rfl⟩
  obtain ⟨bl', hbl'⟩ : ∃ bl, bl = x.body.length := ⟨_, rfl⟩
  have y5 : w2.cell? ⟨y, 5, none⟩ = some (.slice A ul ca) := hul ▸ y5
  have y9 : w2.cell? ⟨y, 9, none⟩ = some (.slice B bl cb) := hbl ▸ y9
  have z5 : w2.cell? ⟨z, 5, none⟩ = some (.slice A' ul' ca') := hul' ▸ z5
  have z9 : w2.cell? ⟨z, 9, none⟩ = some (.slice B' bl' cb') := hbl' ▸ z9
  unfold sameC
  rw [← hul, ← hbl, ← hul', ← hbl']
  cases h0 : (c.box == x.box) with
  | false =>
    simp -dsimp [go_sem, y0, y1, y2, y3, y4, y5, y6, y7, y8, y9, z0, z1, z2, z3, z4, z5, z6, z7, z8, z9, h0]
    exact n2
  | true =>
    cases h1 : (c.pass == x.pass) with
    | false =>
      simp -dsimp [go_sem, y0, y1, y2, y3, y4, y5, y6, y7, y8, y9, z0, z1, z2, z3, z4, z5, z6, z7, z8, z9, h0, h1]
      exact n2
    | true =>
      cases h2 : (c.to == x.to) with
      | false =>
        simp -dsimp [go_sem, y0, y1, y2, y3, y4, y5, y6, y7, y8, y9, z0, z1, z2, z3, z4, z5, z6, z7, z8, z9, h0, h1, h2]
        exact n2
      | true =>
        cases h3 : ((ul : Int) == (ul' : Int)) with
        | false =>
          simp -dsimp [go_sem, y0, y1, y2, y3, y4, y5, y6, y7, y8, y9, z0, z1, z2, z3, z4, z5, z6, z7, z8, z9, h0, h1, h2, h3]
          exact n2
        | true =>
          cases h4 : (c.mode == x.mode) with
          | false =>
            simp -dsimp [go_sem, y0, y1, y2, y3, y4, y5, y6, y7, y8, y9, z0, z1, z2, z3, z4, z5, z6, z7, z8, z9, h0, h1, h2, h3, h4]
            exact n2
          | true =>
            cases h5 : (c.flags == x.flags) with
            | false =>
              simp -dsimp [go_sem, y0, y1, y2, y3, y4, y5, y6, y7, y8, y9, z0, z1, z2, z3, z4, z5, z6, z7, z8, z9, h0, h1, h2, h3, h4, h5]
              exact n2
            | true =>
              cases h6 : (c.date == x.date) with
              | false =>
                simp -dsimp [go_sem, y0, y1, y2, y3, y4, y5, y6, y7, y8, y9, z0, z1, z2, z3, z4, z5, z6, z7, z8, z9, h0, h1, h2, h3, h4, h5, h6]
                exact n2
              | true =>
                cases h7 : ((bl : Int) == (bl' : Int)) with
                | false =>
                  simp -dsimp [go_sem, y0, y1, y2, y3, y4, y5, y6, y7, y8, y9, z0, z1, z2, z3, z4, z5, z6, z7, z8, z9, h0, h1, h2, h3, h4, h5, h6, h7]
                  exact n2
                | true =>
                  simp -dsimp [go_sem, y0, y1, y2, y3, y4, y5, y6, y7, y8, y9, z0, z1, z2, z3, z4, z5, z6, z7, z8, z9, h0, h1, h2, h3, h4, h5, h6, h7]
                  exact n2
end Go.Proofs.YtipdndmfngpbfaaGreatDoor

