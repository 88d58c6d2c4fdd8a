/-
  What the Writer of octet lays: numbers, rows; what it hands out. By the session itself.
-/
import Derived.Test.YtindfpaahlijeaaDoorOctC
namespace Go.Proofs.YtindfpaahlijeaaDoor
set_option linter.unusedSimpArgs false
set_option linter.unusedVariables false
set_option maxRecDepth 100000
open Go.Vc Go.RowKit

theorem wOut_spec (g : Nat) (l : List UInt8) (F : Nat → Prop) (w : World) (h : Wr w g l F) (hl : l.length ≤ 140737488355328) :
    Cal Tryd.prog 20 #[.pointer (some ⟨g, 0, none⟩)] w fun v w' => Bs w' v l w.heap.size ∧ Nw w w' := by
  obtain ⟨A, c, hb, ho, hA, hF, hFl⟩ := h
  have h0 := hb.cell 0
  refine enter Tryd.mixed Tryd.func20 rfl (by kernel_rfl) ?_
  simp -dsimp [go_sem, h0]
  refine call (clone_spec A c l w ho.rd hl) ?_
  rintro v w' ⟨hB, hk⟩
  simp -dsimp [go_sem]
  exact ⟨hB, hk⟩

theorem or128 (n : Nat) : bits .or .u8 (IntKind.u8.wrap (n : Int)) 128 = ((n % 128 + 128 : Nat) : Int) := by
  have e : IntKind.u8.wrap (n : Int) = ((n % 256 : Nat) : Int) := by rw [IntKind.wrap_u8']; omega
  rw [e, show (128 : Int) = ((128 : Nat) : Int) from rfl, u8_or_nat _ 128 (by omega) (by omega)]
  congr 1
  have h1 : n % 256 = n % 256 / 128 * 128 + n % 128 := by omega
  have h2 : n % 256 / 128 = 0 ∨ n % 256 / 128 = 1 := by omega
  rcases h2 with h2 | h2
  · rw [h2] at h1
    rw [h1, Nat.zero_mul, Nat.zero_add, Nat.or_comm, nat_join 7 128 (n % 128) (by decide) (by omega)]
    omega
  · rw [h2, Nat.one_mul] at h1
    rw [h1, ← nat_join 7 128 (n % 128) (by decide) (by omega), Nat.or_comm, ← Nat.or_assoc, Nat.or_self, nat_join 7 128 (n % 128) (by decide) (by omega)]
    omega
theorem numB_pos (n : Nat) : 1 ≤ (numB n).length := by
  by_cases h : n < 128
  · rw [numB_small h]; simp
  · rw [numB_big h]; simp
theorem wNums_spec (g : Nat) (l : List UInt8) (vs : List Int) (F : Nat → Prop) (B : Option Addr) (d : Nat) (w : World) (h : Wr w g l F) (hr : Rd w B (vs.map i64)) (hB : Ofl B (vs.map i64) F) (hl : l.length + 9 * vs.length ≤ 140737488355328) :
    Cal Tryd.prog 19 #[.pointer (some ⟨g, 0, none⟩), .slice B vs.length d] w fun v w' => v = .tuple #[] ∧ ∃ F', Wr w' g (l ++ numsB vs) F' ∧ Gr F F' w w' ∧ Kp F w w' := by
  refine enter Tryd.mixed Tryd.func19 rfl (by kernel_rfl) ?_
  simp -dsimp [go_sem]
  refine loop [5, 6, 11, 12, 13, 14, 15, 16, 17, 18, 19, 20, 21, 22, 23, 24, 25, 26, 27, 28, 29, 30, 31, 32, 33, 34, 35, 36, 37, 38, 39, 40, 41, 42, 43, 44, 45, 46] (by kernel_rfl)
    (fun f w' => Box (∃ k F', k ≤ vs.length ∧ f 11 = i64 (k : Nat) ∧ Wr w' g (l ++ numsB (vs.take k)) F' ∧ Gr F F' w w' ∧ Kp F w w')) (fun f _ => vs.length - (intOf (f 11)).toNat) ⟨0, F, Nat.zero_le _, rfl, by simpa [numsB] using h, Gr.refl _ _, Kp.refl _ _⟩ ?_
  rintro f w' ⟨k, F', hk, f11, hW, hG, hK⟩
  simp -dsimp [go_sem, f11]
  refine cond_d (fun hlt => ?_) (fun hlt => ?_)
  · have hlt : k < vs.length := by omega
    obtain ⟨b, o, rfl, hcell⟩ := hr k (i64 vs[k]) (by simp [hlt])
    have hcell' := hK.cell_some hcell (hB ⟨b, o, none⟩ rfl (by rintro h; rw [List.map_eq_nil_iff] at h; subst h; cases hlt) : ¬ F b)
    have hlen : (numsB (vs.take k)).length ≤ 9 * k := by
      have := numsB_len (vs.take k)
      rw [List.length_take, Nat.min_eq_left hk] at this
      exact this
    have hcl : max 0 (min vs[k] 4611686018427387904) = (clampN vs[k] : Int) := by unfold clampN; omega
    have htake : numsB (vs.take (k + 1)) = numsB (vs.take k) ++ numB (clampN vs[k]) := by
      unfold numsB
      rw [List.take_succ_eq_append_getElem hlt, List.flatMap_append]
      simp
    have hn := clampN_le vs[k]
    have hw : IntKind.u64.wrap (clampN vs[k] : Int) = clampN vs[k] := by rw [IntKind.wrap_u64]; omega
    obtain ⟨n, hn'⟩ : ∃ n, n = clampN vs[k] := ⟨_, rfl⟩
    rw [← hn'] at hw hcl hn htake
    simp -dsimp [go_sem, f11, hlt, hcell', hcl, hw]
    refine loop [6, 19, 20, 21, 22, 23, 24, 25, 26, 27, 28, 29, 30, 31, 32, 33, 34] (by kernel_rfl)
      (fun f2 w2 => Box (∃ (u : Nat) (l2 : List UInt8) (F2 : Nat → Prop), u ≤ n ∧ f2 6 = .int .u64 (u : Nat) ∧ l2 ++ numB u = l ++ numsB (vs.take (k + 1)) ∧ Wr w2 g l2 F2 ∧ Gr F F2 w w2 ∧ Kp F w w2)) (fun f2 _ => (intOf (f2 6)).toNat)
      ⟨n, _, F', Nat.le_refl _, by simp [upd], by rw [htake, List.append_assoc], hW, hG, hK⟩ ?_
    rintro f2 w2 ⟨u, l2, F2, hu, f6, hl2, hW2, hG2, hK2⟩
    have hlen2 : l2.length + 1 ≤ l.length + 9 * (k + 1) := by
      have hp := numB_pos u
      have h1 := congrArg List.length hl2
      rw [List.length_append, List.length_append, htake, List.length_append] at h1
      have h2 := numB_len9 hn
      omega
    obtain ⟨A, c, hb, ho, hA, hF, hFl⟩ := id hW2
    have h0 := hb.cell 0
    have f0 := hb.frozen 0
    simp -dsimp [go_sem, f6]
    refine cond_d (fun hbig => ?_) (fun hbig => ?_)
    · have hbig : ¬ u < 128 := by omega
      have hlt := hb.lt
      have h0' : (w2.alloc (.cells #[.int .u8 ((u % 128 + 128 : Nat) : Int)] 5)).cell? ⟨g, 0, none⟩ = some (.slice A l2.length c) := by rw [World.cell?_alloc_lt _ _ _ hlt, h0]; rfl
      have ho1 := or128 u
      obtain ⟨x, hx⟩ : ∃ x, x = u % 128 + 128 := ⟨_, rfl⟩
      rw [← hx] at ho1 h0'
      simp -dsimp [go_sem, f6, h0, ho1]
      have hnw : Nw w2 (w2.alloc (.cells #[.int .u8 (x : Int)] 5)) := (Kp.refl _ _).alloc _
      have hrd : Rd (w2.alloc (.cells #[.int .u8 (x : Int)] 5)) (some ⟨w2.heap.size, 0, none⟩) ([UInt8.ofNat x].map u8) := by
        have hx256 : x < 256 := by omega
        rw [List.map_cons, List.map_nil, byteOf x hx256]
        exact (Ow.made w2 5 1 1 #[.int .u8 (x : Int)] rfl (by simp [maxLen])).rd
      refine app Tryd.Su8 (ho.nw hnw) hrd (m := 1) (by simp) (one_u8 _) (by omega) (by omega) ?_
      intro A' c' w3 ho3 hk3 hAA
      have hoff : ¬ blk A g := fun h => by
        obtain ⟨a, rfl, e⟩ := blk_of h
        exact hA a rfl e
      have hb3 := (hb.kp hnw (fun h => h)).kp hk3 hoff
      simp -dsimp [go_sem, hb3.cell 0, hb3.frozen 0]
      obtain ⟨F3, hW3, hG3, hK3⟩ := wr_app (m := [UInt8.ofNat x]) hb hA hF hnw ho3 hk3 hAA
      have hsh : (u : Int) / 128 = ((u / 128 : Nat) : Int) := by omega
      obtain ⟨y, hy⟩ : ∃ y, y = u / 128 := ⟨_, rfl⟩
      rw [← hy] at hsh
      simp -dsimp [go_sem, f6, hsh]
      refine ⟨⟨y, l2 ++ [UInt8.ofNat x], F3, by omega, rfl, ?_, hW3, hG2.trans hG3 hK2.size hK3.size, hK2.gr hG2 hK3⟩, ?_⟩
      · rw [← hl2, numB_big hbig, hx, hy, List.append_assoc]; rfl
      · simp [intOf]; omega
    · have hbig : u < 128 := by omega
      have hwu : IntKind.u8.wrap (u : Int) = u := by rw [IntKind.wrap_u8']; omega
      have hk1 : IntKind.i64.wrap ((k : Int) + 1) = ((k + 1 : Nat) : Int) := w64 (by omega) (by omega)
      simp -dsimp [go_sem, f6, h0, hwu]
      have hnw : Nw w2 (w2.alloc (.cells #[.int .u8 (u : Int)] 5)) := (Kp.refl _ _).alloc _
      have hrd : Rd (w2.alloc (.cells #[.int .u8 (u : Int)] 5)) (some ⟨w2.heap.size, 0, none⟩) ([UInt8.ofNat u].map u8) := by
        have hx256 : u < 256 := by omega
        rw [List.map_cons, List.map_nil, byteOf u hx256]
        exact (Ow.made w2 5 1 1 #[.int .u8 (u : Int)] rfl (by simp [maxLen])).rd
      refine app Tryd.Su8 (ho.nw hnw) hrd (m := 1) (by simp) (one_u8 _) (by omega) (by omega) ?_
      intro A' c' w3 ho3 hk3 hAA
      have hoff : ¬ blk A g := fun h => by
        obtain ⟨a, rfl, e⟩ := blk_of h
        exact hA a rfl e
      have hb3 := (hb.kp hnw (fun h => h)).kp hk3 hoff
      simp -dsimp [go_sem, hb3.cell 0, hb3.frozen 0]
      obtain ⟨F3, hW3, hG3, hK3⟩ := wr_app (m := [UInt8.ofNat u]) hb hA hF hnw ho3 hk3 hAA
      obtain ⟨k1, hk1'⟩ : ∃ k1, k1 = k + 1 := ⟨_, rfl⟩
      rw [← hk1'] at hk1
      simp -dsimp [go_sem, f11, hk1]
      refine ⟨⟨k1, F3, by omega, rfl, ?_, hG2.trans hG3 hK2.size hK3.size, hK2.gr hG2 hK3⟩, ?_⟩
      · rw [hk1', ← hl2, numB_small hbig]; exact hW3
      · simp [intOf]; omega
  · obtain rfl : k = vs.length := by omega
    simp -dsimp [go_sem]
    rw [List.take_length] at hW
    exact ⟨F', hW, hG, hK⟩

/-- A row with its length. -/
def rowB (p : List UInt8) : List UInt8 := numB p.length ++ p
def rowsB (ps : List (List UInt8)) : List UInt8 := ps.flatMap rowB
/-- What rows hold together, a number's nine bytes for each. -/
def load (ps : List (List UInt8)) : Nat := (ps.map fun p => p.length + 9).sum
theorem load_take (ps : List (List UInt8)) (k : Nat) : load (ps.take k) ≤ load ps := by
  have h := congrArg load (List.take_append_drop k ps)
  simp only [load, List.map_append, List.sum_append] at h ⊢
  omega
theorem load_ge (ps : List (List UInt8)) : ps.length ≤ load ps := by
  induction ps with
  | nil => simp
  | cons p ps ih => simp only [load, List.map_cons, List.sum_cons, List.length_cons] at ih ⊢; omega
theorem load_at (ps : List (List UInt8)) (k : Nat) (hk : k < ps.length) : load (ps.take (k + 1)) = load (ps.take k) + ps[k].length + 9 := by
  unfold load
  rw [List.take_succ_eq_append_getElem hk, List.map_append, List.sum_append]
  simp
  omega
theorem rowB_len (p : List UInt8) (h : p.length ≤ 4611686018427387904) : (rowB p).length ≤ p.length + 9 := by
  have := numB_len9 h
  simp [rowB]; omega
theorem rowsB_len (ps : List (List UInt8)) (h : load ps ≤ 4611686018427387904) : (rowsB ps).length ≤ load ps := by
  induction ps with
  | nil => simp [rowsB]
  | cons p ps ih =>
    simp only [load, List.map_cons, List.sum_cons] at h ih ⊢
    have h1 := ih (by omega)
    have h2 := rowB_len p (by omega)
    simp only [rowsB, List.flatMap_cons, List.length_append] at h1 ⊢
    omega
theorem wBytes_spec (g : Nat) (l : List UInt8) (ps : List (List UInt8)) (F : Nat → Prop) (A : Option Addr) (c : Nat) (w : World) (h : Wr w g l F) (hr : Brs w A ps F) (hl : l.length + load ps ≤ 140737488355328) :
    Cal Tryd.prog 18 #[.pointer (some ⟨g, 0, none⟩), .slice A ps.length c] w fun v w' => v = .tuple #[] ∧ ∃ F', Wr w' g (l ++ rowsB ps) F' ∧ Gr F F' w w' ∧ Kp F w w' := by
  refine enter Tryd.mixed Tryd.func18 rfl (by kernel_rfl) ?_
  simp -dsimp [go_sem]
  refine loop [5, 8, 9, 10, 11, 12, 13, 14, 15, 16, 17, 18, 19, 20] (by kernel_rfl)
    (fun f w' => Box (∃ k F', k ≤ ps.length ∧ f 8 = i64 (k : Nat) ∧ Wr w' g (l ++ rowsB (ps.take k)) F' ∧ Gr F F' w w' ∧ Kp F w w')) (fun f _ => ps.length - (intOf (f 8)).toNat) ⟨0, F, Nat.zero_le _, rfl, by simpa [rowsB] using h, Gr.refl _ _, Kp.refl _ _⟩ ?_
  rintro f w' ⟨k, F', hk, f8, hW, hG, hK⟩
  simp -dsimp [go_sem, f8]
  refine cond_d (fun hlt => ?_) (fun hlt => ?_)
  · have hlt : k < ps.length := by omega
    obtain ⟨vs, hvl, hrd, hoA, hi⟩ := id hr
    obtain ⟨B, d, hv, hrB, hoB, hd⟩ := hi k hlt
    obtain ⟨b, o, rfl, hcell⟩ := hrd k _ hv
    have hcell := hK.cell_some hcell (hoA ⟨b, o, none⟩ rfl (by rintro rfl; cases hv) : ¬ F b)
    have h0 := load_ge ps
    have h1 := load_take ps k
    have h2 := load_at ps k hlt
    have h3 := load_take ps (k + 1)
    have h4 := rowsB_len (ps.take k) (by omega)
    simp -dsimp [go_sem, f8, hlt, hcell]
    have ha : Nw w' (w'.alloc (.cells #[.int .i64 (ps[k].length : Int)] 3)) := (Kp.refl _ _).alloc _
    have hrd1 : Rd (w'.alloc (.cells #[.int .i64 (ps[k].length : Int)] 3)) (some ⟨w'.heap.size, 0, none⟩) ([(ps[k].length : Int)].map i64) := (Ow.made w' 3 1 1 #[.int .i64 (ps[k].length : Int)] rfl (by simp [maxLen])).rd
    have hoff1 : Off (some ⟨w'.heap.size, 0, none⟩) F' := by
      rintro a ha hF
      cases ha
      exact Nat.lt_irrefl _ (Wr.lt_ hW _ hF)
    refine call (wNums_spec g _ [(ps[k].length : Int)] F' _ 1 _ (Wr.kp_ hW ha fun _ _ h => h) hrd1 (hoff1.l _) (by simp; omega)) ?_
    rintro v w2 ⟨rfl, F2, hW2, hG2, hK2⟩
    have hK1 : Kp F w w2 := hK.gr hG ((ha.kp F').trans hK2 fun _ _ h => h)
    have hG1 : Gr F F2 w w2 := hG.trans (fun i hi => by
      rcases hG2 i hi with h | h
      · exact .inl h
      · exact .inr ⟨by have := h.1; simp at this; omega, h.2⟩) hK.size (Nat.le_trans ha.size hK2.size)
    have hn9 : (numsB [(ps[k].length : Int)]) = numB ps[k].length := by
      simp only [numsB, List.flatMap_cons, List.flatMap_nil, List.append_nil]
      congr 1
      unfold clampN
      omega
    have hn9l := numB_len9 (n := ps[k].length) (by omega)
    rw [hn9] at hW2
    simp -dsimp [go_sem]
    refine call (wRaw_spec g _ ps[k] F2 B d w2 hW2 (hrB.kp hK1 hoB) (by simp only [List.length_append]; omega)) ?_
    rintro v w3 ⟨rfl, F3, hW3, hG3, hK3⟩
    have hk1 : IntKind.i64.wrap ((k : Int) + 1) = ((k + 1 : Nat) : Int) := w64 (by omega) (by omega)
    obtain ⟨k1, hk1'⟩ : ∃ k1, k1 = k + 1 := ⟨_, rfl⟩
    rw [← hk1'] at hk1
    simp -dsimp [go_sem, f8, hk1]
    refine ⟨⟨k1, F3, by omega, rfl, ?_, hG1.trans hG3 hK1.size hK3.size, hK1.gr hG1 hK3⟩, ?_⟩
    · have e : rowsB (ps.take k1) = rowsB (ps.take k) ++ (numB ps[k].length ++ ps[k]) := by
        rw [hk1']
        unfold rowsB
        rw [List.take_succ_eq_append_getElem hlt, List.flatMap_append]
        simp [rowB]
      rw [e]
      simpa only [List.append_assoc] using hW3
    · simp [intOf]; omega
  · obtain rfl : k = ps.length := by omega
    simp -dsimp [go_sem]
    rw [List.take_length] at hW
    exact ⟨F', hW, hG, hK⟩

end Go.Proofs.YtindfpaahlijeaaDoor
