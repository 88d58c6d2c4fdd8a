/-
  lock's reference: Touch and Due walked. By the session itself.
-/
import Derived.Test.YtfdbnlgokaapnaaLkF
namespace Go.Proofs.Ytfdbnlgokaapnaa
set_option linter.unusedSimpArgs false
set_option linter.unusedVariables false
set_option maxRecDepth 100000
set_option maxHeartbeats 1000000
open Go.Vc Go.RowKit

def insL : List (Int × Int) → Int → Int → List (Int × Int)
  | [], c, a => [(c, a)]
  | p :: r, c, a => if p.1 < c then p :: insL r c a else (c, a) :: p :: r
def touchL (dl : List (Int × Int)) (c a : Int) : List (Int × Int) := insL (dl.filter fun p => p.1 != c) c a
theorem RefL.setD {w1 w4 : World} {y : Nat} {hl : List (ByteArray × Int)} {d dl' : List (Int × Int)} {F : Nat → Prop} (h : RefL w1 y hl d F) (hK : Nw w1 w4) {A : Option Addr} {n c : Nat} (hn : n = dl'.length) (ho' : Ow w4 65 2 A n c (cl kInt dl')) (hA : ∀ a, A = some a → w1.heap.size ≤ a.block) :
    ∃ F', RefL (w4.setCell ⟨y, 1, none⟩ (.slice A n c)) y hl dl' F' ∧ Gr F F' w1 (w4.setCell ⟨y, 1, none⟩ (.slice A n c)) ∧ Kp F w1 (w4.setCell ⟨y, 1, none⟩ (.slice A n c)) := by
  subst hn
  obtain ⟨H, ch, D, cd, hb, ho, hr, hc, hF, h1, h2, h3, hlt⟩ := id h
  have hyl := hlt y (hF _ (.inl rfl))
  have hs : Kp (At y) w4 (w4.setCell ⟨y, 1, none⟩ (.slice A dl'.length c)) := (Kp.refl _ _).setCell_at _ _
  have hAn : ∀ k, blk A k → w1.heap.size ≤ k ∧ k < w4.heap.size := fun k hk => by
    obtain ⟨a, ha, rfl⟩ := blk_of hk
    exact ⟨hA a ha, ho'.lt a ha⟩
  have hoff : Off A (At y) := fun a ha e => by
    have := hA a ha
    have e : a.block = y := e
    omega
  refine ⟨fun k => F k ∨ blk A k, ⟨H, ch, A, c, by simpa using (hb.kp hK fun h => h).set 1 _, (ho.nw hK).kp hs h1, ho'.rd.kp hs (hoff.l _), ho'.2.1, fun k hk => ?_, h1, hoff, fun k hk hd => ?_, fun k hk => Nat.lt_of_lt_of_le ?_ hs.size⟩, fun k hk => ?_, (hK.kp F).trans hs fun k _ e => by rw [show k = y from e]; exact hF _ (.inl rfl)⟩
  · rcases hk with e | e | e
    · exact .inl (hF _ (.inl e))
    · exact .inl (hF _ (.inr (.inl e)))
    · exact .inr e
  · have h4 := hlt k (hF _ (.inr (.inl hk)))
    have := (hAn k hd).1
    omega
  · rcases hk with e | e
    · exact Nat.lt_of_lt_of_le (hlt k e) hK.size
    · exact (hAn k e).2
  · rcases hk with e | e
    · exact .inl e
    · exact .inr ⟨(hAn k e).1, Nat.lt_of_lt_of_le (hAn k e).2 hs.size⟩
theorem rd_cut2 {w : World} {A : Option Addr} {xs : List Value} {c m : Nat} (h : Rd w A xs) (hc : xs.length ≤ c * 2) : Rd w (if c = m then A else A.map fun a => a.add (m * 2)) (xs.drop (m * 2)) := by
  split
  · rename_i e
    rw [List.drop_eq_nil_of_le (by omega)]
    exact Rd.nil _ _
  · exact h.drop' (m * 2)

theorem rTouch_spec (y : Nat) (hl : List (ByteArray × Int)) (dl : List (Int × Int)) (F : Nat → Prop) (c n l : Int) (w : World) (h : RefL w y hl dl F) (hll : dl.length ≤ 1000) :
    Cal Try.prog 17 #[.pointer (some ⟨y, 0, none⟩), i64 c, i64 n, i64 l] w fun v w' => v = .tuple #[] ∧ ∃ F', RefL w' y hl (touchL dl c (IntKind.i64.wrap (n + l))) F' ∧ Gr F F' w w' ∧ Kp F w w' := by
  refine enter Try.mixed Try.func17 rfl (by kernel_rfl) ?_
  simp -dsimp [go_sem]
  refine call (rForget_spec y hl dl F c w h hll) ?_
  rintro v w1 ⟨rfl, F1, hR1, hG1, hK1⟩
  have htl : ∀ a, touchL dl c a = insL (dl.filter fun p => p.1 != c) c a := fun _ => rfl
  rw [htl]
  have hdl : (dl.filter fun p => p.1 != c).length ≤ dl.length := List.length_filter_le _ _
  generalize dl.filter (fun p => p.1 != c) = d at *
  obtain ⟨a, ha⟩ : ∃ a, a = IntKind.i64.wrap (n + l) := ⟨_, rfl⟩
  rw [← ha]
  obtain ⟨H, ch, D, cd, hb, ho, hr, hc, hF, h1, h2, h3, hlt⟩ := id hR1
  have b1 := hb.cell 1
  simp -dsimp [go_sem]
  refine loop [8, 13, 14, 15, 16, 17, 18, 19, 20, 21, 22, 23, 24, 25, 26, 27, 28, 29, 30, 31, 32, 33] (by kernel_rfl)
    (fun f w' => Box1 (fun x w' => ∃ i : Nat, i ≤ d.length ∧ x = i64 i ∧ insL d c a = d.take i ++ insL (d.drop i) c a ∧ w' = w1) (f 8) w') (fun f _ => d.length - (intOf (f 8)).toNat) ⟨0, Nat.zero_le _, rfl, by simp, rfl⟩ ?_
  rintro f w' ⟨i, hi, f8, hins, rfl⟩
  by_cases hgo : ∃ h : i < d.length, d[i].1 < c
  · obtain ⟨hlt2, hlc⟩ := hgo
    obtain ⟨c0, _⟩ := cl_at kInt d i hlt2
    obtain ⟨b, o, rfl, hc0⟩ := hr _ _ c0
    have hki : IntKind.i64.wrap ((i : Int) + 1) = ((i + 1 : Nat) : Int) := w64 (by omega) (by omega)
    rw [List.drop_eq_getElem_cons hlt2] at hins
    simp only [insL, if_pos hlc] at hins
    have hins2 : insL d c a = d.take (i + 1) ++ insL (d.drop (i + 1)) c a := by rw [hins, List.take_succ_eq_append_getElem hlt2, List.append_assoc]; rfl
    obtain ⟨i1, hi1⟩ : ∃ i1, i1 = i + 1 := ⟨_, rfl⟩
    rw [← hi1] at hki hins2
    simp -dsimp [go_sem, f8, b1, hlt2, hc0, hlc, hki]
    exact ⟨⟨i1, by omega, rfl, hins2, rfl⟩, by simp [intOf]; omega⟩
  · have hfin : insL d c a = d.take i ++ (c, a) :: d.drop i := by
      rw [hins]
      by_cases hlt2 : i < d.length
      · rw [List.drop_eq_getElem_cons hlt2]
        simp only [insL]
        rw [if_neg (fun h => hgo ⟨hlt2, h⟩)]
      · rw [List.drop_eq_nil_of_le (by omega)]
        rfl
    rw [hfin]
    have b1f := hb.frozen 1
    have hic : i ≤ cd := by omega
    have ka : Nw w' (w'.alloc (.cells #[] 65)) := (Kp.refl _ _).alloc _
    have b1a := (hb.kp ka fun h => h).cell 1
    have hlens : (d.take i).length = i := by simp [Nat.min_eq_left hi]
    have hlend : (d.drop i).length = d.length - i := by simp
    by_cases hlt2 : i < d.length
    · obtain ⟨c0, _⟩ := cl_at kInt d i hlt2
      obtain ⟨b, o, hD, hc0⟩ := hr _ _ c0
      have hlc : ¬ d[i].1 < c := fun h => hgo ⟨hlt2, h⟩
      subst hD
      simp -dsimp [go_sem, f8, b1, hlt2, hc0, hlc, b1a, hi, hic]
      refine gs_app Sdue (B := w'.heap.size) (Gs.made w' 65 2 0 #[] rfl rfl rfl (by simp [maxLen]) (Nat.le_refl _)) (ys := cl kInt (d.take i)) (m := i) (by rw [← cl_take _ _ _ hi]; exact (hr.nw ka).take _) (by rw [cl_len, hlens]) (cl_oneI _) (by omega) (by omega) ka.size ?_
      intro v2 w2 hG2 hk2
      have n2 : Nw w' w2 := Nw.fr ka hk2 (Nat.le_refl _)
      rw [List.nil_append] at hG2
      obtain ⟨m2, hm2⟩ : ∃ m2, m2 = 0 + i := ⟨_, rfl⟩
      rw [← hm2] at hG2
      obtain ⟨A2, c2, rfl, ho2, hA2⟩ := id hG2
      simp -dsimp [go_sem, ← ha]
      simp [go_sem, ← ha]
      have kb : Nw w2 (w2.alloc (.cells #[i64 c, i64 a] 65)) := (Kp.refl _ _).alloc _
      refine gs_app Sdue (hG2.nw kb) (ys := cl kInt [(c, a)]) (Rd.fresh rfl rfl) (m := 1) (by simp [cl_len]) (cl_oneI _) (by omega) (by omega) (Nat.le_trans n2.size kb.size) ?_
      intro v3 w3 hG3 hk3
      have n3 : Nw w' w3 := Nw.fr (n2.nw kb) hk3 (Nat.le_refl _)
      rw [← cl_app] at hG3
      obtain ⟨m3, hm3⟩ : ∃ m3, m3 = m2 + 1 := ⟨_, rfl⟩
      rw [← hm3] at hG3
      obtain ⟨A3, c3, rfl, ho3, hA3⟩ := id hG3
      have b13 := (hb.kp n3 fun h => h).cell 1
      simp -dsimp [go_sem, b13, f8, hi, hic]
      have hrX := rd_cut2 (hr.nw n3) (c := cd) (m := i) (by rw [cl_len]; omega)
      rw [cl_drop _ _ _ hi] at hrX
      simp only [Option.map_some, Addr.add_lit] at hrX
      refine gs_app Sdue hG3 (ys := cl kInt (d.drop i)) hrX (m := d.length - i) (by rw [cl_len, hlend]) (cl_oneI _) (by omega) (by omega) n3.size ?_
      intro v4 w4 hG4 hk4
      have n4 : Nw w' w4 := Nw.fr n3 hk4 (Nat.le_refl _)
      rw [← cl_app] at hG4
      obtain ⟨m4, hm4⟩ : ∃ m4, m4 = m3 + (d.length - i) := ⟨_, rfl⟩
      rw [← hm4] at hG4
      obtain ⟨A4, c4, rfl, ho4, hA4⟩ := id hG4
      have b14 := (hb.kp n4 fun h => h).cell 1
      have b14f := (hb.kp n4 fun h => h).frozen 1
      simp -dsimp [go_sem, b14, b14f]
      have hfl : m4 = (d.take i ++ (c, a) :: d.drop i).length := by
        rw [List.length_append, List.length_cons, hlens, hlend]; omega
      obtain ⟨F', hR', hG', hK'⟩ := hR1.setD n4 hfl (by rw [show d.take i ++ (c, a) :: d.drop i = d.take i ++ [(c, a)] ++ d.drop i by simp]; exact ho4) hA4
      exact ⟨F', hR', Gr.trans hG1 hG' hK1.size hK'.size, Kp.gr hK1 hG1 hK'⟩
    · simp -dsimp [go_sem, f8, b1, hlt2, b1a, hi, hic]
      refine gs_app Sdue (B := w'.heap.size) (Gs.made w' 65 2 0 #[] rfl rfl rfl (by simp [maxLen]) (Nat.le_refl _)) (ys := cl kInt (d.take i)) (m := i) (by rw [← cl_take _ _ _ hi]; exact (hr.nw ka).take _) (by rw [cl_len, hlens]) (cl_oneI _) (by omega) (by omega) ka.size ?_
      intro v2 w2 hG2 hk2
      have n2 : Nw w' w2 := Nw.fr ka hk2 (Nat.le_refl _)
      rw [List.nil_append] at hG2
      obtain ⟨m2, hm2⟩ : ∃ m2, m2 = 0 + i := ⟨_, rfl⟩
      rw [← hm2] at hG2
      obtain ⟨A2, c2, rfl, ho2, hA2⟩ := id hG2
      simp -dsimp [go_sem, ← ha]
      simp [go_sem, ← ha]
      have kb : Nw w2 (w2.alloc (.cells #[i64 c, i64 a] 65)) := (Kp.refl _ _).alloc _
      refine gs_app Sdue (hG2.nw kb) (ys := cl kInt [(c, a)]) (Rd.fresh rfl rfl) (m := 1) (by simp [cl_len]) (cl_oneI _) (by omega) (by omega) (Nat.le_trans n2.size kb.size) ?_
      intro v3 w3 hG3 hk3
      have n3 : Nw w' w3 := Nw.fr (n2.nw kb) hk3 (Nat.le_refl _)
      rw [← cl_app] at hG3
      obtain ⟨m3, hm3⟩ : ∃ m3, m3 = m2 + 1 := ⟨_, rfl⟩
      rw [← hm3] at hG3
      obtain ⟨A3, c3, rfl, ho3, hA3⟩ := id hG3
      have b13 := (hb.kp n3 fun h => h).cell 1
      simp -dsimp [go_sem, b13, f8, hi, hic]
      have hrX := rd_cut2 (hr.nw n3) (c := cd) (m := i) (by rw [cl_len]; omega)
      rw [cl_drop _ _ _ hi] at hrX
      skip
      refine gs_app Sdue hG3 (ys := cl kInt (d.drop i)) hrX (m := d.length - i) (by rw [cl_len, hlend]) (cl_oneI _) (by omega) (by omega) n3.size ?_
      intro v4 w4 hG4 hk4
      have n4 : Nw w' w4 := Nw.fr n3 hk4 (Nat.le_refl _)
      rw [← cl_app] at hG4
      obtain ⟨m4, hm4⟩ : ∃ m4, m4 = m3 + (d.length - i) := ⟨_, rfl⟩
      rw [← hm4] at hG4
      obtain ⟨A4, c4, rfl, ho4, hA4⟩ := id hG4
      have b14 := (hb.kp n4 fun h => h).cell 1
      have b14f := (hb.kp n4 fun h => h).frozen 1
      simp -dsimp [go_sem, b14, b14f]
      have hfl : m4 = (d.take i ++ (c, a) :: d.drop i).length := by
        rw [List.length_append, List.length_cons, hlens, hlend]; omega
      obtain ⟨F', hR', hG', hK'⟩ := hR1.setD n4 hfl (by rw [show d.take i ++ (c, a) :: d.drop i = d.take i ++ [(c, a)] ++ d.drop i by simp]; exact ho4) hA4
      exact ⟨F', hR', Gr.trans hG1 hG' hK1.size hK'.size, Kp.gr hK1 hG1 hK'⟩
end Go.Proofs.Ytfdbnlgokaapnaa
