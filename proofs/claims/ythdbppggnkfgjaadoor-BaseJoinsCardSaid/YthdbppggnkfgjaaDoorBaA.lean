/-
  Bytes as letters, plainly: the encoding by threes; the decoding letter by letter, and by fours; that both find what was encoded. By the session itself.
-/
import Derived.Test.YthdbppggnkfgjaaDoorHp
import Derived.Lib.Bytealg
namespace Go.Vc
set_option linter.unusedSimpArgs false
set_option linter.unusedVariables false
set_option maxRecDepth 100000

def abc : List UInt8 := [65, 66, 67, 68, 69, 70, 71, 72, 73, 74, 75, 76, 77, 78, 79, 80, 81, 82, 83, 84, 85, 86, 87, 88, 89, 90, 97, 98, 99, 100, 101, 102, 103, 104, 105, 106, 107, 108, 109, 110, 111, 112, 113, 114, 115, 116, 117, 118, 119, 120, 121, 122, 48, 49, 50, 51, 52, 53, 54, 55, 56, 57, 43, 47]
def let6 (n : Nat) : UInt8 := abc.getD n 0
def idx (c : UInt8) : Int := Lib.indexByte abc c
def getB (l : List UInt8) (k : Nat) : Nat := (l.getD k 0).toNat
theorem getB_lt (l : List UInt8) (k : Nat) : getB l k < 256 := UInt8.toNat_lt _
def num3 (l : List UInt8) : Nat := getB l 0 * 65536 + getB l 1 * 256 + getB l 2
def lett (l : List UInt8) (k : Nat) : UInt8 := if k ≤ l.length then let6 (num3 l / 2 ^ (6 * (3 - k)) % 64) else 61
def g4 (l : List UInt8) : List UInt8 := [lett l 0, lett l 1, lett l 2, lett l 3]
def encB : List UInt8 → List UInt8
  | [] => []
  | [a] => g4 [a]
  | [a, b] => g4 [a, b]
  | a :: b :: c :: r => g4 [a, b, c] ++ encB r
theorem g4_three (a b c : UInt8) (r : List UInt8) : g4 (a :: b :: c :: r) = g4 [a, b, c] := by
  simp [g4, lett, num3, getB]
theorem encB_step {l : List UInt8} (h : l ≠ []) : encB l = g4 l ++ encB (l.drop 3) := by
  match l, h with
  | [a], _ => simp [encB]
  | [a, b], _ => simp [encB]
  | a :: b :: c :: r, _ => rw [g4_three]; simp [encB]
theorem encB_len (l : List UInt8) : (encB l).length = (l.length + 2) / 3 * 4 := by
  match l with
  | [] => rfl
  | [a] => simp [encB, g4]
  | [a, b] => simp [encB, g4]
  | a :: b :: c :: r =>
    have := encB_len r
    simp only [encB, List.length_append, this, List.length_cons]
    rw [show (g4 [a, b, c]).length = 4 from rfl]
    omega
theorem encB_app (l m : List UInt8) (h : l.length % 3 = 0) : encB (l ++ m) = encB l ++ encB m := by
  match l with
  | [] => rfl
  | [a] => simp at h
  | [a, b] => simp at h
  | a :: b :: c :: r =>
    have := encB_app r m (by simp at h; omega)
    simp [encB, this]
theorem let6_ne {n : Nat} (h : n < 64) : let6 n ≠ 61 := by
  have : ∀ n : Fin 64, let6 n.val ≠ 61 := by decide
  exact this ⟨n, h⟩
theorem idx_let {n : Nat} (h : n < 64) : idx (let6 n) = n := by
  have : ∀ n : Fin 64, idx (let6 n.val) = (n.val : Nat) := by decide
  exact this ⟨n, h⟩
theorem let6_lt {n : Nat} (h : n < 64) : (let6 n).toNat < 128 := by
  have : ∀ n : Fin 64, (let6 n.val).toNat < 128 := by decide
  exact this ⟨n, h⟩
theorem abc_len : abc.length = 64 := by decide
theorem idx_ge (c : UInt8) : -1 ≤ idx c := Lib.indexByte_ge _ _
theorem idx_lt (c : UInt8) : idx c < 64 := by
  have : ∀ l : List UInt8, Lib.indexByte l c < l.length ∨ l = [] := by
    intro l
    induction l with
    | nil => exact .inr rfl
    | cons b l ih =>
      left
      unfold Lib.indexByte
      split
      · rw [List.length_cons]; omega
      · split
        · rw [List.length_cons]; omega
        · rcases ih with h | h
          · rw [List.length_cons]; omega
          · subst h; simp [Lib.indexByte] at *
  rcases this abc with h | h
  · rw [abc_len] at h; exact h
  · exact absurd h (by decide)
/-- The four numbers of three bytes. -/
theorem num_0 (A B C : Nat) (ha : A < 256) (hb : B < 256) (hc : C < 256) : (A * 65536 + B * 256 + C) / 2 ^ (6 * (3 - 0)) % 64 = A / 4 := by
  show (A * 65536 + B * 256 + C) / 262144 % 64 = _; omega
theorem num_1 (A B C : Nat) (ha : A < 256) (hb : B < 256) (hc : C < 256) : (A * 65536 + B * 256 + C) / 2 ^ (6 * (3 - 1)) % 64 = A % 4 * 16 + B / 16 := by
  show (A * 65536 + B * 256 + C) / 4096 % 64 = _; omega
theorem num_2 (A B C : Nat) (ha : A < 256) (hb : B < 256) (hc : C < 256) : (A * 65536 + B * 256 + C) / 2 ^ (6 * (3 - 2)) % 64 = B % 16 * 4 + C / 64 := by
  show (A * 65536 + B * 256 + C) / 64 % 64 = _; omega
theorem num_3 (A B C : Nat) (ha : A < 256) (hb : B < 256) (hc : C < 256) : (A * 65536 + B * 256 + C) / 2 ^ (6 * (3 - 3)) % 64 = C % 64 := by
  show (A * 65536 + B * 256 + C) / 1 % 64 = _; omega
theorem g4_a (a : UInt8) : g4 [a] = [let6 (a.toNat / 4), let6 (a.toNat % 4 * 16), 61, 61] := by
  have ha := UInt8.toNat_lt a
  have e : num3 [a] = a.toNat * 65536 + 0 * 256 + 0 := rfl
  simp only [g4, lett, e]
  rw [num_0 _ _ _ ha (by omega) (by omega), num_1 _ _ _ ha (by omega) (by omega)]
  simp
theorem g4_b (a b : UInt8) : g4 [a, b] = [let6 (a.toNat / 4), let6 (a.toNat % 4 * 16 + b.toNat / 16), let6 (b.toNat % 16 * 4), 61] := by
  have ha := UInt8.toNat_lt a
  have hb := UInt8.toNat_lt b
  have e : num3 [a, b] = a.toNat * 65536 + b.toNat * 256 + 0 := rfl
  simp only [g4, lett, e]
  rw [num_0 _ _ _ ha hb (by omega), num_1 _ _ _ ha hb (by omega), num_2 _ _ _ ha hb (by omega)]
  simp
theorem g4_c (a b c : UInt8) : g4 [a, b, c] = [let6 (a.toNat / 4), let6 (a.toNat % 4 * 16 + b.toNat / 16), let6 (b.toNat % 16 * 4 + c.toNat / 64), let6 (c.toNat % 64)] := by
  have ha := UInt8.toNat_lt a
  have hb := UInt8.toNat_lt b
  have hc := UInt8.toNat_lt c
  have e : num3 [a, b, c] = a.toNat * 65536 + b.toNat * 256 + c.toNat := rfl
  simp only [g4, lett, e]
  rw [num_0 _ _ _ ha hb hc, num_1 _ _ _ ha hb hc, num_2 _ _ _ ha hb hc, num_3 _ _ _ ha hb hc]
  simp

/-! ### Letter by letter -/
def trimR (s : List UInt8) : List UInt8 := (s.reverse.dropWhile (· == 61)).reverse
abbrev DS := Nat × Nat × List UInt8
def dstep (s : DS) (k : Nat) : DS :=
  if 8 ≤ s.2.1 + 6 then ((s.1 * 64 + k) % 2 ^ (s.2.1 + 6 - 8), s.2.1 + 6 - 8, s.2.2 ++ [((s.1 * 64 + k) / 2 ^ (s.2.1 + 6 - 8) % 256).toUInt8]) else (s.1 * 64 + k, s.2.1 + 6, s.2.2)
def dall : List UInt8 → DS → Option DS
  | [], s => some s
  | c :: l, s => if idx c < 0 then none else dall l (dstep s (idx c).toNat)
def decB (s : List UInt8) : Option (List UInt8) := match dall (trimR s) (0, 0, []) with
  | some d => if encB d.2.2 = s then some d.2.2 else none
  | none => none
theorem dall_app (l m : List UInt8) (s : DS) : dall (l ++ m) s = (dall l s).bind (dall m) := by
  induction l generalizing s with
  | nil => rfl
  | cons c l ih =>
    simp only [List.cons_append, dall]
    split
    · rfl
    · exact ih _
theorem dall_let {n : Nat} (h : n < 64) (l : List UInt8) (s : DS) : dall (let6 n :: l) s = dall l (dstep s n) := by
  simp only [dall, idx_let h]
  rw [if_neg (by omega), Int.toNat_natCast]
def body : List UInt8 → List UInt8
  | [] => []
  | [a] => (g4 [a]).take 2
  | [a, b] => (g4 [a, b]).take 3
  | a :: b :: c :: r => g4 [a, b, c] ++ body r
theorem byte_eq (a : UInt8) (n : Nat) (h : n = a.toNat) : n.toUInt8 = a := by subst h; simp
theorem dall_body (b : List UInt8) (o : List UInt8) : ∃ n k, dall (body b) (0, 0, o) = some (n, k, o ++ b) := by
  match b with
  | [] => exact ⟨0, 0, by simp [body, dall]⟩
  | [a] =>
    have ha := UInt8.toNat_lt a
    rw [body, g4_a]
    simp only [List.take_succ_cons, List.take_zero]
    rw [dall_let (by omega), dall_let (by omega)]
    have h1 := byte_eq a ((a.toNat / 4 * 64 + a.toNat % 4 * 16) / 16 % 256) (by omega)
    simp [dall, dstep, h1, - Nat.toUInt8_eq]
  | [a, b] =>
    have ha := UInt8.toNat_lt a
    have hb := UInt8.toNat_lt b
    rw [body, g4_b]
    simp only [List.take_succ_cons, List.take_zero]
    rw [dall_let (by omega), dall_let (by omega), dall_let (by omega)]
    have h1 := byte_eq a ((a.toNat / 4 * 64 + (a.toNat % 4 * 16 + b.toNat / 16)) / 16 % 256) (by omega)
    have h2 := byte_eq b (((a.toNat / 4 * 64 + (a.toNat % 4 * 16 + b.toNat / 16)) % 16 * 64 + b.toNat % 16 * 4) / 4 % 256) (by omega)
    simp [dall, dstep, h1, h2, - Nat.toUInt8_eq]
  | a :: b :: c :: r =>
    have ha := UInt8.toNat_lt a
    have hb := UInt8.toNat_lt b
    have hc := UInt8.toNat_lt c
    obtain ⟨n, k, ih⟩ := dall_body r (o ++ [a, b, c])
    refine ⟨n, k, ?_⟩
    rw [body, g4_c]
    simp only [List.cons_append, List.nil_append]
    rw [dall_let (by omega), dall_let (by omega), dall_let (by omega), dall_let (by omega)]
    have e : dstep (dstep (dstep (dstep (0, 0, o) (a.toNat / 4)) (a.toNat % 4 * 16 + b.toNat / 16)) (b.toNat % 16 * 4 + c.toNat / 64)) (c.toNat % 64) = (0, 0, o ++ [a, b, c]) := by
      have h1 := byte_eq a ((a.toNat / 4 * 64 + (a.toNat % 4 * 16 + b.toNat / 16)) / 16 % 256) (by omega)
      have h2 := byte_eq b (((a.toNat / 4 * 64 + (a.toNat % 4 * 16 + b.toNat / 16)) % 16 * 64 + (b.toNat % 16 * 4 + c.toNat / 64)) / 4 % 256) (by omega)
      have h3 := byte_eq c ((((a.toNat / 4 * 64 + (a.toNat % 4 * 16 + b.toNat / 16)) % 16 * 64 + (b.toNat % 16 * 4 + c.toNat / 64)) % 4 * 64 + c.toNat % 64) % 256) (by omega)
      simp [dstep, h1, h2, h3, - Nat.toUInt8_eq]
      omega
    rw [e, ih]
    simp
theorem body_ne (b : List UInt8) : ∀ x ∈ body b, x ≠ 61 := by
  match b with
  | [] => simp [body]
  | [a] =>
    have ha := UInt8.toNat_lt a
    rw [body, g4_a]
    simp only [List.take_succ_cons, List.take_zero, List.mem_cons, List.not_mem_nil, or_false]
    rintro x (rfl | rfl) <;> exact let6_ne (by omega)
  | [a, b] =>
    have ha := UInt8.toNat_lt a
    have hb := UInt8.toNat_lt b
    rw [body, g4_b]
    simp only [List.take_succ_cons, List.take_zero, List.mem_cons, List.not_mem_nil, or_false]
    rintro x (rfl | rfl | rfl) <;> exact let6_ne (by omega)
  | a :: b :: c :: r =>
    have ha := UInt8.toNat_lt a
    have hb := UInt8.toNat_lt b
    have hc := UInt8.toNat_lt c
    have ih := body_ne r
    rw [body, g4_c]
    simp only [List.mem_append, List.mem_cons, List.not_mem_nil, or_false]
    rintro x ((rfl | rfl | rfl | rfl) | h)
    all_goals first | exact ih _ h | exact let6_ne (by omega)
def padN (b : List UInt8) : Nat := (3 - b.length % 3) % 3
theorem encB_body (b : List UInt8) : encB b = body b ++ List.replicate (padN b) 61 := by
  match b with
  | [] => rfl
  | [a] => simp [encB, body, g4_a, padN]
  | [a, b] => simp [encB, body, g4_b, padN]
  | a :: b :: c :: r =>
    have := encB_body r
    rw [show padN (a :: b :: c :: r) = padN r by unfold padN; simp only [List.length_cons]; omega]
    simp [encB, body, this]
theorem trimR_rep (x : List UInt8) (n : Nat) (h : ∀ y ∈ x, y ≠ 61) : trimR (x ++ List.replicate n 61) = x := by
  unfold trimR
  rw [List.reverse_append, List.reverse_replicate]
  have h1 : ∀ n (r : List UInt8), (List.replicate n (61 : UInt8) ++ r).dropWhile (· == 61) = r.dropWhile (· == 61) := by
    intro n r
    induction n with
    | zero => rfl
    | succ n ih => simp [List.replicate_succ]
  rw [h1]
  cases hr : x.reverse with
  | nil => simp at hr; subst hr; rfl
  | cons y r =>
    have hy : y ≠ 61 := h y (by rw [← List.mem_reverse, hr]; exact List.mem_cons_self ..)
    rw [List.dropWhile_cons_of_neg (by simpa using hy), ← hr, List.reverse_reverse]
theorem decB_enc (b : List UInt8) : decB (encB b) = some b := by
  unfold decB
  have h1 : trimR (encB b) = body b := by rw [encB_body]; exact trimR_rep _ _ (body_ne b)
  obtain ⟨n, k, h2⟩ := dall_body b []
  rw [h1, h2]
  simp
theorem decB_some {s b : List UInt8} : decB s = some b ↔ encB b = s := by
  constructor
  · intro h
    unfold decB at h
    split at h
    · split at h
      · rename_i he; cases h; exact he
      · cases h
    · cases h
  · rintro rfl; exact decB_enc b
theorem encB_inj {a b : List UInt8} (h : encB a = encB b) : a = b := by
  have h1 := decB_enc a
  rw [h, decB_enc] at h1
  exact (Option.some.inj h1).symm

/-! ### By fours -/
def num0 (c : UInt8) : Nat := (max 0 (idx c)).toNat
def four (a b c d : UInt8) : Nat := ((num0 a * 64 + num0 b) * 64 + num0 c) * 64 + num0 d
def by4 (n : Nat) : List UInt8 := [(n / 65536 % 256).toUInt8, (n / 256 % 256).toUInt8, (n % 256).toUInt8]
def refG : List UInt8 → List UInt8
  | a :: b :: c :: d :: r => by4 (four a b c d) ++ refG r
  | _ => []
/-- Of the last two letters, how many from the end on are '='. -/
def strips (s : List UInt8) : Nat := if s.getLast? = some 61 then (if s.dropLast.getLast? = some 61 then 2 else 1) else 0
def refO (s : List UInt8) : List UInt8 := (refG s).take ((refG s).length - strips s)
def decR (s : List UInt8) : Option (List UInt8) := if encB (refO s) = s then some (refO s) else none
theorem num0_let {n : Nat} (h : n < 64) : num0 (let6 n) = n := by
  unfold num0; rw [idx_let h]; omega
theorem num0_fill : num0 61 = 0 := by decide
theorem refG_body (b : List UInt8) : refG (encB b) = b ++ List.replicate (padN b) 0 := by
  match b with
  | [] => rfl
  | [a] =>
    have ha := UInt8.toNat_lt a
    rw [encB, g4_a]
    simp only [refG, four, by4, num0_let (show a.toNat / 4 < 64 by omega), num0_let (show a.toNat % 4 * 16 < 64 by omega), num0_fill]
    rw [byte_eq a _ (by omega), show (((a.toNat / 4 * 64 + a.toNat % 4 * 16) * 64 + 0) * 64 + 0) / 256 % 256 = 0 by omega, show (((a.toNat / 4 * 64 + a.toNat % 4 * 16) * 64 + 0) * 64 + 0) % 256 = 0 by omega]
    rfl
  | [a, b] =>
    have ha := UInt8.toNat_lt a
    have hb := UInt8.toNat_lt b
    rw [encB, g4_b]
    simp only [refG, four, by4, num0_let (show a.toNat / 4 < 64 by omega), num0_let (show a.toNat % 4 * 16 + b.toNat / 16 < 64 by omega), num0_let (show b.toNat % 16 * 4 < 64 by omega), num0_fill]
    rw [byte_eq a _ (by omega), byte_eq b _ (by omega), show (((a.toNat / 4 * 64 + (a.toNat % 4 * 16 + b.toNat / 16)) * 64 + b.toNat % 16 * 4) * 64 + 0) % 256 = 0 by omega]
    rfl
  | a :: b :: c :: r =>
    have ha := UInt8.toNat_lt a
    have hb := UInt8.toNat_lt b
    have hc := UInt8.toNat_lt c
    have ih := refG_body r
    rw [encB, g4_c, show padN (a :: b :: c :: r) = padN r by unfold padN; simp only [List.length_cons]; omega]
    simp only [List.cons_append, List.nil_append, refG, four, by4, num0_let (show a.toNat / 4 < 64 by omega), num0_let (show a.toNat % 4 * 16 + b.toNat / 16 < 64 by omega), num0_let (show b.toNat % 16 * 4 + c.toNat / 64 < 64 by omega), num0_let (show c.toNat % 64 < 64 by omega)]
    rw [byte_eq a _ (by omega), byte_eq b _ (by omega), byte_eq c _ (by omega), ih]
theorem padN_lt (b : List UInt8) : padN b < 3 := Nat.mod_lt _ (by omega)
theorem strips_rep (x : List UInt8) (n : Nat) (hn : n < 3) (h : ∀ y ∈ x, y ≠ 61) : strips (x ++ List.replicate n 61) = n := by
  have h0 : ∀ z : List UInt8, (∀ y ∈ z, y ≠ 61) → z.getLast? ≠ some 61 := fun z hz e => hz 61 (List.mem_of_getLast? e) rfl
  unfold strips
  match n, hn with
  | 0, _ => simp [h0 x h]
  | 1, _ => simp [h0 x h]
  | 2, _ =>
    rw [show x ++ List.replicate 2 (61 : UInt8) = (x ++ [61]) ++ [61] by simp [List.replicate]]
    simp
theorem decR_enc (b : List UInt8) : decR (encB b) = some b := by
  have h : refO (encB b) = b := by
    unfold refO
    rw [refG_body]
    conv => lhs; arg 1; rw [encB_body]
    rw [strips_rep _ _ (padN_lt b) (body_ne b)]
    simp
  unfold decR
  rw [h, if_pos rfl]
theorem decR_eq (s : List UInt8) : decR s = decB s := by
  have h : ∀ b, decR s = some b ↔ encB b = s := fun b => by
    constructor
    · intro h
      unfold decR at h
      split at h
      · rename_i he; cases h; exact he
      · cases h
    · rintro rfl; exact decR_enc b
  cases hd : decB s with
  | some b => exact (h b).2 (decB_some.1 hd)
  | none =>
    cases hr : decR s with
    | none => rfl
    | some b => rw [decB_some.2 ((h b).1 hr)] at hd; cases hd
end Go.Vc
