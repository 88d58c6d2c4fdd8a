/-
  keep.Clear, and what it calls, walked. By the session itself.
-/
import Derived.Test.YthonmjgagblogaaKpB
import Derived.Test.YthonmjgagblogaaDkMo
namespace Go.Proofs.Ythonmjgagblogaa
set_option linter.unusedSimpArgs false
set_option linter.unusedVariables false
set_option maxRecDepth 100000
set_option maxHeartbeats 1000000
open Go.Vc Go.RowKit

theorem ktexts_spec (A B : Option Addr) (c d : Nat) (xs ys : List Nm) (w : World) (hx : Rd w A (xs.map fun s => str s)) (hy : Rd w B (ys.map fun s => str s)) (hl : xs.length ≤ 140737488355328) :
    Cal Try.prog 34 #[.slice A xs.length c, .slice B ys.length d] w fun v w' => v = .bool (decide (xs = ys)) ∧ Nw w w' := by
  refine enter Try.mixed Try.func34 rfl (by kernel_rfl) ?_
  simp -dsimp [go_sem]
  refine cond_n (fun h => ?_) (fun h => ?_)
  · simp -dsimp [go_sem]
    refine ⟨?_, Kp.refl _ _⟩
    rintro rfl; exact h rfl
  · have hlen : xs.length = ys.length := by omega
    simp -dsimp [go_sem]
    refine loop [4, 5, 11, 12, 13, 14, 15, 16, 17, 18, 19, 20, 21, 22, 23, 24, 25] (by kernel_rfl) (fun f w' => Box1 (fun a w' => ∃ k : Nat, k ≤ xs.length ∧ a = i64 k ∧ xs.take k = ys.take k ∧ w'.heap = w.heap ∧ Nw w w') (f 5) w')
      (fun f _ => xs.length - (intOf (f 5)).toNat) ⟨0, Nat.zero_le _, rfl, by simp, rfl, Kp.refl _ _⟩ ?_
    rintro f w' ⟨k, hk, f5, ht, hh, hK⟩
    simp -dsimp [go_sem, f5]
    refine cond_d (fun hlt => ?_) (fun hlt => ?_)
    · have hlt : k < xs.length := by omega
      obtain ⟨b, o, rfl, hc⟩ := hx k (str xs[k]) (by simp [hlt])
      have hlt' : k < ys.length := by omega
      obtain ⟨b', o', rfl, hc'⟩ := hy k (str ys[k]) (by simp [hlt'])
      simp -dsimp [go_sem]
      refine draw (.take 0 (.take 1 (.take 2 (.take 3 (.take 4 (.take 5 (.take 6 (.take 7 (.take 8 .done))))))))) (by kernel_rfl) (fun w1 => w1.heap = w.heap) hh ?_
      have hcell : ∀ w1 : World, w1.heap = w.heap → ∀ a, w1.cell? a = w.cell? a := fun w1 h a => by simp [World.cell?, h]
      have heq : ((⟨(xs[k]).toArray⟩ : ByteArray) != ⟨(ys[k]).toArray⟩) = !decide (xs[k] = ys[k]) := by rw [bne, bytes_eqn]
      have htk : xs.take (k + 1) = xs.take k ++ [xs[k]] := List.take_succ_eq_append_getElem hlt
      have htk' : ys.take (k + 1) = ys.take k ++ [ys[k]] := List.take_succ_eq_append_getElem hlt'
      have hne : xs[k] ≠ ys[k] → xs ≠ ys := fun h e => h (by simp [e])
      obtain ⟨a, ha⟩ : ∃ a, a = xs[k] := ⟨_, rfl⟩
      obtain ⟨b1, hb1⟩ : ∃ b1, b1 = ys[k] := ⟨_, rfl⟩
      rw [← ha] at hc heq htk hne
      rw [← hb1] at hc' heq htk' hne
      simp -dsimp [go_sem, f5, hlt, hlt', hcell w' hh, hc, hc', heq]
      refine ⟨fun w1 h1 => by simp [hcell w1 h1, hc], fun w1 h1 => by simp [hcell w1 h1, hc'], ?_⟩
      by_cases hab : a = b1
      · subst hab
        have hk1 : IntKind.i64.wrap ((k : Int) + 1) = ((k + 1 : Nat) : Int) := w64 (by omega) (by omega)
        obtain ⟨k1, hk1'⟩ : ∃ k1, k1 = k + 1 := ⟨_, rfl⟩
        rw [← hk1'] at hk1 htk htk'
        simp -dsimp [go_sem, f5, hk1]
        exact ⟨⟨k1, by omega, rfl, by rw [htk, htk', ht], hh, hK.drew⟩, by simp [intOf]; omega⟩
      · have hab' : (a == b1) = false := by simpa using hab
        simp -dsimp [go_sem, hab']
        exact ⟨hne hab, hK.drew⟩
    · obtain rfl : k = xs.length := by omega
      simp -dsimp [go_sem]
      refine ⟨?_, hK⟩
      rw [List.take_length, List.take_of_length_le (by omega)] at ht
      exact ht

/-- Does a text begin so? -/
def hasPre (s p : Nm) : Bool := decide (p.length ≤ s.length) && decide (s.take p.length = p)
theorem sub_str (s : Nm) (n : Nat) : (⟨s.toArray⟩ : ByteArray).extract 0 n = ⟨(s.take n).toArray⟩ := by
  apply ByteArray.ext
  simp [ByteArray.data_extract]
theorem lhaspre_spec (s p : Nm) (w : World) (hs : s.length ≤ 9223372036854775807) : Cal Try.prog 102 #[str s, str p] w fun v w' => v = .bool (hasPre s p) ∧ w' = w := by
  refine enter Try.mixed Try.func102 rfl (by kernel_rfl) ?_
  unfold hasPre
  by_cases h : p.length ≤ s.length
  · have h' : (p.length : Int) ≤ (s.length : Int) := by omega
    have he := bytes_eqn (s.take p.length) p
    have hx := sub_str s p.length
    simp -dsimp [go_sem, h, h', hx]
    rw [Bool.eq_iff_iff]; simp
  · have h' : ¬ (p.length : Int) ≤ (s.length : Int) := by omega
    simp -dsimp [go_sem, h, h']
theorem haspre_spec (s p : Nm) (w : World) (hs : s.length ≤ 9223372036854775807) : Cal Try.prog 72 #[str s, str p] w fun v w' => v = .bool (hasPre s p) ∧ w' = w := by
  refine enter Try.mixed Try.func72 rfl (by kernel_rfl) ?_
  simp -dsimp [go_sem]
  refine call (lhaspre_spec s p w hs) ?_
  rintro v w1 ⟨rfl, rfl⟩
  simp -dsimp [go_sem]
def kClr (p : Nm) (stay : List Nm) : Dsk → List Nm → Dsk × Nat
  | D, [] => (D, 0)
  | D, n :: r => if hasPre n p = false ∨ n ∈ stay then kClr p stay D r else if (dEach fRemove D [n]).2 ≠ 0 then dEach fRemove D [n] else kClr p stay (dEach fRemove D [n]).1 r
theorem kclear_spec (p : Nm) (stay : List Nm) (A : Option Addr) (c g : Nat) (D : Dsk) (F : Nat → Prop) (w : World) (h : Dk w g D F) (hr : Rd w A (stay.map fun s => str s)) (hA : Ofl A (stay.map fun s => str s) F) (hl : stay.length ≤ 140737488355328) :
    Cal Try.prog 27 #[.pointer (some ⟨g, 0, none⟩), str p, .slice A stay.length c] w fun v w' => v = i64 (kClr p stay D (keysA D.fs)).2 ∧ ∃ F', Dk w' g (kClr p stay D (keysA D.fs)).1 F' ∧ Gr F F' w w' ∧ Kp F w w' := by
  refine enter Try.mixed Try.func27 rfl (by kernel_rfl) ?_
  simp -dsimp [go_sem]
  refine call (dlist_spec g D F w h) ?_
  rintro v w1 ⟨hk1, A1, c1, rfl, hr1, hc1, hA1⟩
  have hD1 := h.nw hk1
  have hkl : (keysA D.fs).length = D.fs.length := by simp [keysA]
  have hmany := h.ok.many
  have hnm : ∀ n ∈ keysA D.fs, n.length ≤ 64 := fun n hn => by
    obtain ⟨x, hx⟩ := Option.isSome_iff_exists.1 ((tLook_keys n).2 hn)
    exact h.ok.names n x hx
  obtain ⟨ns, hns⟩ : ∃ ns, ns = keysA D.fs := ⟨_, rfl⟩
  rw [← hns] at hr1 hkl hnm ⊢
  rw [← hkl] at hc1 hmany ⊢
  obtain ⟨N, hN⟩ : ∃ N, N = ns.length := ⟨_, rfl⟩
  rw [← hN] at hc1 hmany ⊢
  simp -dsimp [go_sem]
  refine loop [6, 8, 9, 15, 16, 17, 18, 19, 20, 21, 22, 23, 24, 25, 26, 27, 28, 29, 30, 31, 32, 33, 34, 35] (by kernel_rfl)
    (fun s w' => Box1 (fun a w' => ∃ (i : Nat) (Di : Dsk) (Fi : Nat → Prop), i ≤ N ∧ a = i64 i ∧ kClr p stay D ns = kClr p stay Di (ns.drop i) ∧ Dk w' g Di Fi ∧ Gr F Fi w1 w' ∧ Kp F w1 w') (s 15) w')
    (fun s _ => N - (intOf (s 15)).toNat) ⟨0, D, F, Nat.zero_le _, rfl, rfl, hD1, Gr.refl _ _, Kp.refl _ _⟩ ?_
  rintro s0 w2 ⟨i, Di, Fi, hi, s15, hE, hD, hG, hK⟩
  simp -dsimp [go_sem, s15]
  refine cond_d (fun hlt => ?_) (fun hlt => ?_)
  · have hlt : i < ns.length := by omega
    have hlt' : i < N := by omega
    have hoff : Ofl A1 (ns.map fun s => str s) F := fun a ha _ hf => by
      have h1 := hA1 a ha
      have h2 := h.lt _ hf
      omega
    obtain ⟨b, o, rfl, hc⟩ := (hr1.kp hK hoff) i (str ns[i]) (by simp [hlt])
    have hnl := hnm ns[i] (List.getElem_mem hlt)
    rw [List.drop_eq_getElem_cons hlt] at hE
    have hwk : IntKind.i64.wrap ((i : Int) + 1) = ((i + 1 : Nat) : Int) := w64 (by omega) (by omega)
    obtain ⟨k1, hk1'⟩ : ∃ k1, k1 = i + 1 := ⟨_, rfl⟩
    rw [← hk1'] at hwk hE
    obtain ⟨n, hn⟩ : ∃ n, n = ns[i] := ⟨_, rfl⟩
    rw [← hn] at hc hE hnl
    simp -dsimp [go_sem, s15, hlt', hc]
    refine call (haspre_spec n p w2 (by omega)) ?_
    rintro v w3 ⟨rfl, rfl⟩
    have hst : kClr p stay Di (n :: ns.drop k1) = if hasPre n p = false ∨ n ∈ stay then kClr p stay Di (ns.drop k1) else if (dEach fRemove Di [n]).2 ≠ 0 then dEach fRemove Di [n] else kClr p stay (dEach fRemove Di [n]).1 (ns.drop k1) := rfl
    by_cases hpre : hasPre n p = true
    · simp -dsimp [go_sem, hpre]
      refine call (contains_spec stay n A c w3 ((hr.nw hk1).kp hK hA) hl) ?_
      rintro v w4 ⟨rfl, rfl⟩
      by_cases hst2 : n ∈ stay
      · rw [if_pos (.inr hst2)] at hst
        rw [hst] at hE
        simp -dsimp [go_sem, hst2, s15, hwk]
        exact ⟨⟨k1, Di, Fi, by omega, rfl, hE, hD, hG, hK⟩, by simp [intOf]; omega⟩
      · rw [if_neg (by simp [hpre, hst2])] at hst
        rw [hst] at hE
        simp -dsimp [go_sem, hst2]
        have ka : Nw w4 (w4.alloc (.cells #[str n] 9)) := (Kp.refl _ _).alloc _
        refine call (dremove_spec [n] _ 1 g Di Fi _ (hD.nw ka) (Rd.fresh rfl rfl) (fun a ha _ hf => by cases ha; exact Nat.lt_irrefl _ (hD.lt _ hf)) (by simp) (by simp; omega)) ?_
        rintro v w5 ⟨rfl, F5, hD5, hG5, hK5⟩
        have hKa : Kp F w1 (w4.alloc (.cells #[str n] 9)) := Kp.nw hK ka
        have hGa : Gr F Fi w1 (w4.alloc (.cells #[str n] 9)) := Gr.wide hG (Nat.le_refl _) ka.size
        have hG15 := Gr.trans hGa hG5 hKa.size hK5.size
        have hK15 := Kp.gr hKa hGa hK5
        obtain ⟨E, hE2⟩ : ∃ E, E = dEach fRemove Di [n] := ⟨_, rfl⟩
        rw [← hE2] at hE hD5 ⊢
        obtain ⟨D5, e5⟩ := E
        simp only at hE hD5 ⊢
        by_cases h5 : e5 = 0
        · subst h5
          rw [if_neg (fun h => h rfl)] at hE
          simp -dsimp [go_sem, s15, hwk]
          exact ⟨⟨k1, D5, F5, by omega, rfl, hE, hD5, hG15, hK15⟩, by simp [intOf]; omega⟩
        · have h5' : ((e5 : Int) != 0) = true := by simp; omega
          rw [if_pos h5] at hE
          simp -dsimp [go_sem, h5']
          rw [hE]
          exact ⟨rfl, F5, hD5, Gr.wide hG15 (show w.heap.size ≤ _ from hk1.size) (Nat.le_refl _), (hk1.kp F).trans hK15 fun _ _ h => h⟩
    · have hpre' : hasPre n p = false := by simpa using hpre
      rw [if_pos (.inl hpre')] at hst
      rw [hst] at hE
      simp -dsimp [go_sem, hpre', s15, hwk]
      exact ⟨⟨k1, Di, Fi, by omega, rfl, hE, hD, hG, hK⟩, by simp [intOf]; omega⟩
  · obtain rfl : i = N := by omega
    rw [hN, List.drop_length] at hE
    simp -dsimp [go_sem]
    rw [hE]
    exact ⟨rfl, Fi, hD, Gr.wide hG hk1.size (Nat.le_refl _), (hk1.kp F).trans hK fun _ _ h => h⟩
end Go.Proofs.Ythonmjgagblogaa
