/-
  OctetRows walked: rows as bytes, and back. By the session itself.
-/
import Derived.Test.YtigakpfdahjkdaaOctH
namespace Go.Proofs.Ytigakpfdahjkdaa
set_option linter.unusedSimpArgs false
set_option linter.unusedVariables false
open Go.Vc Go.RowKit

/-- Bytes in a slice whose memory lies in F. -/
def Bf (w : World) (v : Value) (l : List UInt8) (F : Nat → Prop) : Prop := ∃ A c, v = .slice A l.length c ∧ Ow w 5 1 A l.length c (l.map u8) ∧ (∀ k, blk A k → F k) ∧ (∀ k, F k → k < w.heap.size)
theorem Bf.nil (w : World) : Bf w (.slice none 0 0) [] (fun _ => False) := ⟨none, 0, rfl, Ow.nil _ _ _, fun _ h => h, fun _ h => h.elim⟩
theorem Bf.kp {S : Nat → Prop} {w w' : World} {v : Value} {l : List UInt8} {F : Nat → Prop} (h : Bf w v l F) (k : Kp S w w') (hd : ∀ i, F i → ¬ S i) : Bf w' v l F := by
  obtain ⟨A, c, rfl, ho, h1, h2⟩ := h
  exact ⟨A, c, rfl, ho.kp k (Off.of_blk fun i hi => hd _ (h1 _ hi)), h1, fun i hi => Nat.lt_of_lt_of_le (h2 i hi) k.size⟩
theorem Bf.nw {w w' : World} {v : Value} {l : List UInt8} {F : Nat → Prop} (h : Bf w v l F) (k : Nw w w') : Bf w' v l F := h.kp k fun _ _ h => h
theorem Bf.lt {w : World} {v : Value} {l : List UInt8} {F : Nat → Prop} (h : Bf w v l F) : ∀ k, F k → k < w.heap.size := by
  obtain ⟨_, _, _, _, _, h⟩ := h
  exact h
theorem bf_app {K : Value → World → Prop} {k : Stop K} {w : World} {ty : TypeId} {X : Option Addr} {v : Value} {d : Nat} {l m : List UInt8} {F : Nat → Prop}
    (ho : Bf w v l F) (hr : Rd w X (m.map u8)) (hl : l.length + m.length ≤ 140737488355328)
    (h : ∀ v' w' F', Bf w' v' (l ++ m) F' → Gr F F' w w' → Kp F w w' → K v' w') :
    wV K k (appS Try.prog #[34, 34] ty #[v, .slice X m.length d] w) := by
  obtain ⟨A, c, rfl, ho, h1, h2⟩ := ho
  refine app Try.Su8 ho hr (by simp) (one_u8 m) (by omega) (by omega) fun A' c' w' ho' hk hAA => ?_
  have e : l.length + m.length = (l ++ m).length := by simp
  have e2 : l.map u8 ++ m.map u8 = (l ++ m).map u8 := by simp
  rw [e, e2] at ho'
  rw [e]
  refine h _ w' (blk A') ⟨A', c', rfl, ho', fun _ h => h, fun i hi => ?_⟩ (fun i hi => ?_) (hk.mono fun i _ hi => h1 i hi)
  · obtain ⟨a, rfl, rfl⟩ := blk_of hi
    exact ho'.lt a rfl
  · rcases hAA with rfl | ⟨rfl, hlt⟩
    · exact .inl (h1 i hi)
    · have hi : i = w.heap.size := hi
      subst hi
      exact .inr ⟨Nat.le_refl _, hlt⟩
theorem rowsB_take {ps : List (List UInt8)} {k : Nat} (h : k < ps.length) : rowsB (ps.take (k + 1)) = rowsB (ps.take k) ++ rowB ps[k] := by
  unfold rowsB
  rw [List.take_succ_eq_append_getElem h, List.flatMap_append]
  simp
theorem rowsB_drop {ps : List (List UInt8)} {k : Nat} (h : k < ps.length) : rowsB (ps.drop k) = rowB ps[k] ++ rowsB (ps.drop (k + 1)) := by
  unfold rowsB
  rw [List.drop_eq_getElem_cons h, List.flatMap_cons]
theorem bytL_rowB (p rest : List UInt8) (hp : p.length ≤ 4611686018427387904) : bytL (rowB p ++ rest) false = (p, rest, false) := by
  unfold bytL rowB
  rw [List.append_assoc, numL_numB _ _ _ hp]
  unfold rawL
  rw [if_pos ⟨by omega, by rw [List.length_append]; omega⟩]
  simp
theorem load_wei (ps : List (List UInt8)) : load ps ≤ 3 * wei ps := by
  unfold load wei
  induction ps with
  | nil => simp
  | cons p ps ih => simp only [List.map_cons, List.sum_cons] at ih ⊢; omega

theorem rows_law (ps : List (List UInt8)) (raw : List UInt8) (A R : Option Addr) (c d : Nat) (w : World) (hr : Brs w A ps fun _ => False) (hc : ps.length ≤ c) (hraw : Rd w R (raw.map u8)) (hd : raw.length ≤ d) :
    Cal Try.prog 8 #[.slice A ps.length c, .slice R raw.length d] w fun u w' => u = .bool true ∧ Nw w w' := by
  refine enter Try.mixed Try.func8 rfl (by kernel_rfl) ?_
  simp -dsimp [go_sem]
  refine call (heavy_spec ps w A c _ hr) ?_
  rintro v w1 ⟨heavy, rfl, hwei, rfl⟩
  cases heavy with
  | true =>
    simp -dsimp [go_sem]
    exact Kp.refl _ _
  | false =>
    have hwei := hwei rfl
    simp -dsimp [go_sem]
    refine cond_d (fun hl => ?_) (fun hl => ?_)
    · simp -dsimp [go_sem]
      exact Kp.refl _ _
    · have hl : raw.length ≤ 4000 := by omega
      have hge := wei_ge ps
      have hld := load_wei ps
      have hload := load_ge ps
      have hmem := fun p hp => Nat.le_trans (wei_mem ps p hp) hwei
      simp -dsimp [go_sem]
      obtain ⟨g, hg⟩ : ∃ g, g = w1.heap.size := ⟨_, rfl⟩
      have hW1 := Wr.new w1
      have hW2 := Wr.new (w1.alloc (.cells #[.slice none 0 0] 36))
      have ka : Nw w1 (w1.alloc (.cells #[.slice none 0 0] 36)) := (Kp.refl _ _).alloc _
      have hW1 := Wr.kp_ hW1 ((Kp.refl (fun _ => False) _).alloc (.cells #[.slice none 0 0] 36)) fun _ _ h => h
      have kb := ka.alloc (.cells #[.slice none 0 0] 36)
      have hsz : (w1.alloc (.cells #[.slice none 0 0] 36)).heap.size = g + 1 := by simp [hg]
      rw [hsz] at hW2
      rw [← hg] at hW1 ⊢
      generalize (w1.alloc (.cells #[.slice none 0 0] 36)).alloc (.cells #[.slice none 0 0] 36) = w2 at *
      refine loop [4, 7, 8, 9, 20, 21, 22, 23, 24, 25, 26, 27, 28, 29, 30, 31, 32, 33, 34, 35, 36, 37, 38, 39, 40, 41, 42, 43, 44, 45, 46, 47, 48, 49, 50, 51, 52, 53, 54, 55] (by kernel_rfl)
        (fun f w' => Box2 (fun a b w' => ∃ i F G, i ≤ ps.length ∧ b = i64 (i : Nat) ∧ Wr w' g (rowsB (ps.take i)) F ∧ Wr w' (g + 1) [] (At (g + 1)) ∧ Bf w' a (rowsB (ps.take i)) G ∧ Nf w1 F ∧ Nf w1 G ∧ (∀ j, F j → ¬ G j) ∧ ¬ F (g + 1) ∧ ¬ G (g + 1) ∧ Nw w1 w') (f 7) (f 8) w')
        (fun f _ => ps.length - (intOf (f 8)).toNat) ⟨0, At g, fun _ => False, Nat.zero_le _, rfl, hW1, hW2, Bf.nil _, fun i (h : i = g) => by omega, fun _ h => h.elim, fun _ _ h => h, fun (h : g + 1 = g) => by omega, fun h => h, kb⟩ ?_
      rintro f w3 ⟨i, F, G, hi, f8, hO, hL, hB, nF, nG, dFG, dF1, dG1, hK⟩
      have hlt1 := load_take ps i
      have hrl := rowsB_len (ps.take i) (by omega)
      simp -dsimp [go_sem, f8]
      refine cond_d (fun hlt => ?_) (fun hlt => ?_)
      · have hlt : i < ps.length := by omega
        obtain ⟨vs, hvl, hrd, hoA, hi'⟩ := id hr
        obtain ⟨B, d', hv, hrB, hoB, hd'⟩ := hi' i hlt
        obtain ⟨b, o, rfl, hcell⟩ := hrd i _ hv
        have hc3 := hK.cell_some hcell fun h => h
        have hpl := hmem ps[i] (List.getElem_mem hlt)
        obtain ⟨p, hp⟩ : ∃ p, p = ps[i] := ⟨_, rfl⟩
        have htk := rowsB_take hlt
        rw [← hp] at hc3 hcell hrB hpl htk hd'
        have h9 := numB_len9 (n := p.length) (by omega)
        simp -dsimp [go_sem, f8, hlt, hc3]
        refine call (roomy_spec p w3 B d' (hrB.nw hK) (by omega)) ?_
        rintro v w4 ⟨hR, hk4⟩
        have k4 := hK.nw hk4
        have hc4 := k4.cell_some hcell fun h => h
        obtain ⟨A9, c9, rfl, ho9, hA9⟩ := hR
        have hl9 : (p ++ [171]).length = p.length + 1 := by simp
        rw [hl9] at ho9 ⊢
        have hc9 : p.length ≤ c9 := by have := ho9.2.1; omega
        simp -dsimp [go_sem, f8, hlt, hc4, hc9]
        have hnew : ∀ j, F j → ¬ blk A9 j := fun j hj hb => by
          obtain ⟨a, rfl, rfl⟩ := blk_of hb
          have := hA9 a rfl
          have := hO.lt_ _ hj
          omega
        have hnewG : ∀ j, G j → ¬ blk A9 j := fun j hj hb => by
          obtain ⟨a, rfl, rfl⟩ := blk_of hb
          have := hA9 a rfl
          have := hB.lt _ hj
          omega
        have hL4 := hL.kp_ hk4 fun _ _ h => h
        have hnew1 : ¬ blk A9 (g + 1) := fun hb => by
          obtain ⟨a, rfl, e⟩ := blk_of hb
          have := hA9 a rfl
          have := hL.lt_ (g + 1) rfl
          omega
        have ka4 : Nw w4 (w4.alloc (.cells #[.slice A9 p.length c9] 34)) := (Kp.refl _ _).alloc _
        have hO4 := (hO.kp_ hk4 fun _ _ h => h).kp_ ka4 fun _ _ h => h
        refine call (wBytes_spec g _ [p] F _ 1 _ hO4 (Brs.one (p := p) (d := c9) (Blk.new w4 _ _) (fun h => Nat.lt_irrefl _ ((hO.kp_ hk4 fun _ _ h => h).lt_ _ h)) ?_ (Off.of_blk fun j hb hj => hnew j hj hb) hc9) ?_) ?_
        · have := (ho9.rd.nw ka4).take p.length
          simpa using this
        · simp [load]; omega
        rintro v w5 ⟨rfl, F5, hO5, hG5, hK5⟩
        have k5 : Nw w1 w5 := (k4.alloc _).at_ hK5 nF
        have hc5 := k5.cell_some hcell fun h => h
        have e5 : rowsB (ps.take i) ++ rowsB [p] = rowsB (ps.take (i + 1)) := by rw [htk]; simp [rowsB]
        rw [e5] at hO5
        have ho5 := (ho9.nw ka4).kp hK5 (Off.of_blk fun j hb hj => hnew j hj hb)
        simp -dsimp [go_sem, f8, hlt, hc5]
        refine call (stands_spec p w5 A9 B c9 d' (by simpa using ho5.rd) (by have := ho5.2.1; omega) (hrB.nw k5) (by omega)) ?_
        rintro v w6 ⟨rfl, hk6⟩
        simp -dsimp [go_sem]
        have hsp := spoil_spec (p ++ [171]) w6 A9 c9 (by rw [hl9]; exact ho5.nw hk6) (by omega)
        rw [hl9] at hsp
        refine call hsp ?_
        rintro v w7 ⟨rfl, hk7⟩
        have k7 : Nw w1 w7 := (k5.nw hk6).trans hk7 fun j hj hb => by
          obtain ⟨a, rfl, rfl⟩ := blk_of hb
          have := hA9 a rfl
          have := hK.size
          omega
        have hc7 := k7.cell_some hcell fun h => h
        simp -dsimp [go_sem, f8, hlt, hc7]
        refine call (refBytes_spec p B d' w7 (hrB.nw k7) (by omega)) ?_
        rintro v w8 ⟨⟨A8, c8, rfl, ho8, hA8⟩, hk8⟩
        have hrowl : (rowB p).length ≤ p.length + 9 := by simp [rowB]; omega
        simp -dsimp [go_sem]
        have dF5G : ∀ j, F5 j → ¬ G j := hG5.dj dFG fun j hj => by
          have := hB.lt j hj
          have := hk4.size
          simp
          omega
        have hB8 : Bf w8 (f 7) (rowsB (ps.take i)) G := (((((hB.nw hk4).nw ka4).kp hK5 fun j hg hf => dFG j hf hg).nw hk6).kp hk7 hnewG).nw hk8
        refine bf_app hB8 ho8.rd (by omega) ?_
        intro v9 w9 G9 hB9 hG9 hK9
        rw [← htk] at hB9
        have f5A : ∀ j, F5 j → ¬ blk A9 j := fun j hj hb => by
          obtain ⟨a, rfl, rfl⟩ := blk_of hb
          rcases hG5 _ hj with h | h
          · exact hnew _ h rfl
          · have := ho9.lt a rfl
            simp at h
            omega
        have hO9 : Wr w9 g (rowsB (ps.take (i + 1))) F5 := (((hO5.kp_ hk6 fun _ _ h => h).kp_ hk7 f5A).kp_ hk8 fun _ _ h => h).kp_ hK9 dF5G
        have hL9 : Wr w9 (g + 1) [] (At (g + 1)) := (((((hL4.kp_ ka4 fun _ _ h => h).kp_ hK5 fun j (hj : j = _) hf => dF1 (hj ▸ hf)).kp_ hk6 fun _ _ h => h).kp_ hk7 fun j (hj : j = _) hb => hnew1 (hj ▸ hb)).kp_ hk8 fun _ _ h => h).kp_ hK9 fun j (hj : j = _) hg => dG1 (hj ▸ hg)
        have hg1 : g + 1 < w3.heap.size := hL.lt_ _ rfl
        have hk1 : IntKind.i64.wrap ((i : Int) + 1) = ((i + 1 : Nat) : Int) := w64 (by omega) (by omega)
        obtain ⟨k1, hk1'⟩ : ∃ k1, k1 = i + 1 := ⟨_, rfl⟩
        rw [← hk1'] at hk1
        rw [← hk1'] at hO9 hB9
        simp -dsimp [go_sem, f8, hk1]
        refine ⟨⟨k1, F5, G9, by omega, rfl, hO9, hL9, hB9, nF.gr hG5 (by have := (k4.alloc (.cells #[.slice A9 p.length c9] 34)).size; exact this), nG.gr hG9 (k7.nw hk8).size, ?_, ?_, ?_, (k7.nw hk8).at_ hK9 nG⟩, by simp [intOf]; omega⟩
        · intro j hj hg9
          exact hG9.dj (fun j hg hf => dF5G j hf hg) (fun j hj => ((hO5.kp_ hk6 fun _ _ h => h).kp_ hk7 f5A |>.kp_ hk8 fun _ _ h => h).lt_ j hj) j hg9 hj
        · intro hf
          rcases hG5 _ hf with h | h
          · exact dF1 h
          · have := h.1
            have := hk4.size
            simp at *
            omega
        · intro hf
          rcases hG9 _ hf with h | h
          · exact dG1 h
          · have := h.1
            have := (k7.nw hk8).size
            have := hk4.size
            have := hK5.size
            have := hk6.size
            have := hk7.size
            have := hk8.size
            simp at *
            omega
      · obtain rfl : i = ps.length := by omega
        rw [List.take_length] at hO hB hrl
        simp -dsimp [go_sem]
        have hrb := hr.ofl (S' := At (g + 1)) (fun j (h : j = _) => by omega)
        refine call (wBytes_spec (g + 1) [] ps (At (g + 1)) A c w3 hL (hrb.nw hK) (by simp; omega)) ?_
        rintro v w4 ⟨rfl, H, hL4, hG4, hK4⟩
        have k4 : Nw w1 w4 := hK.at_ hK4 (fun j (h : j = _) => by omega)
        have nH : Nf w1 H := (show Nf w1 (At (g + 1)) from fun j (h : j = _) => by omega).gr hG4 hK.size
        have dHF : ∀ j, H j → ¬ F j := hG4.dj (fun j (h : j = _) hf => dF1 (h ▸ hf)) hO.lt_
        have dHG : ∀ j, H j → ¬ G j := hG4.dj (fun j (h : j = _) hf => dG1 (h ▸ hf)) hB.lt
        have hO4 := hO.kp_ hK4 fun j hf (h : j = _) => dF1 (h ▸ hf)
        have hB4 := hB.kp hK4 fun j hf (h : j = _) => dG1 (h ▸ hf)
        rw [List.nil_append] at hL4
        simp -dsimp [go_sem]
        refine call (wRaw_spec g _ raw F R d w4 hO4 (hraw.nw k4) (by omega)) ?_
        rintro v w5 ⟨rfl, F5, hO5, hG5, hK5⟩
        have k5 : Nw w1 w5 := k4.at_ hK5 nF
        have nF5 := nF.gr hG5 k4.size
        have dF5G : ∀ j, F5 j → ¬ G j := hG5.dj dFG hB4.lt
        have dF5H : ∀ j, F5 j → ¬ H j := hG5.dj (fun j hf hh => dHF j hh hf) hL4.lt_
        have hL5 := hL4.kp_ hK5 fun j hh hf => dHF j hh hf
        have hB5 := hB4.kp hK5 fun j hg hf => dFG j hf hg
        simp -dsimp [go_sem]
        refine call (wRaw_spec (g + 1) _ raw H R d w5 hL5 (hraw.nw k5) (by omega)) ?_
        rintro v w6 ⟨rfl, H6, hL6, hG6, hK6⟩
        have k6 : Nw w1 w6 := k5.at_ hK6 nH
        have nH6 := nH.gr hG6 k5.size
        have hO6 := hO5.kp_ hK6 dF5H
        have hB6 := hB5.kp hK6 fun j hg hh => dHG j hh hg
        simp -dsimp [go_sem]
        refine bf_app hB6 (hraw.nw k6) (by omega) ?_
        intro v7 w7 G7 hB7 hG7 hK7
        have dH6G : ∀ j, H6 j → ¬ G j := hG6.dj dHG hB5.lt
        have k7 : Nw w1 w7 := k6.at_ hK7 nG
        have hO7 := hO6.kp_ hK7 dF5G
        have hL7 := hL6.kp_ hK7 dH6G
        obtain ⟨want, hw⟩ : ∃ want, want = rowsB ps ++ raw := ⟨_, rfl⟩
        have hwl : want.length ≤ 20000 := by rw [hw, List.length_append]; omega
        rw [← hw] at hB7 hO7 hL7
        obtain ⟨A7, c7, rfl, ho7, _, _⟩ := hB7
        simp -dsimp [go_sem]
        refine call (wOut_spec g _ F5 w7 hO7 (by omega)) ?_
        rintro v w8 ⟨⟨A8, c8, rfl, ho8, hA8⟩, hk8⟩
        simp -dsimp [go_sem]
        refine call (same_spec A8 A7 c8 c7 want want w8 ho8.rd (ho7.rd.nw hk8) (by omega)) ?_
        rintro v w9 ⟨rfl, hk9⟩
        simp -dsimp [go_sem]
        refine call (wOut_spec (g + 1) _ H6 w9 ((hL7.kp_ hk8 fun _ _ h => h).kp_ hk9 fun _ _ h => h) (by omega)) ?_
        rintro v w10 ⟨⟨A10, c10, rfl, ho10, hA10⟩, hk10⟩
        simp -dsimp [go_sem]
        have k10 := ((k7.nw hk8).nw hk9).nw hk10
        refine call (same_spec A10 A7 c10 c7 want want w10 ho10.rd (((ho7.rd.nw hk8).nw hk9).nw hk10) (by omega)) ?_
        rintro v w11 ⟨rfl, hk11⟩
        simp -dsimp [go_sem]
        refine call (newReader_spec A7 c7 want w11 ((((ho7.rd.nw hk8).nw hk9).nw hk10).nw hk11) (by omega)) ?_
        rintro v w12 ⟨g12, rfl, hg12, ⟨F12, hR12, hF12⟩, hk12⟩
        have k11 := k10.nw hk11
        have k12 := k11.nw hk12
        have n12 : Nf w1 F12 := fun j hj => by
          have := (hF12 j hj).1
          have := k11.size
          omega
        simp -dsimp [go_sem]
        refine loop [4, 11, 12, 79, 80, 81, 82, 83, 84, 85, 86, 87, 88, 89, 90, 91, 92, 93, 94, 95] (by kernel_rfl) (fun f w' => Box1 (fun a w' => ∃ i : Nat, i ≤ ps.length ∧ a = i64 i ∧ Rdr w' g12 (rowsB (ps.drop i) ++ raw) false F12 ∧ Nw w1 w') (f 11) w')
          (fun f _ => ps.length - (intOf (f 11)).toNat) ⟨0, Nat.zero_le _, rfl, by rw [hw] at hR12; exact hR12, k12⟩ ?_
        rintro f2 w13 ⟨i, hi, f11, hR, hK⟩
        simp -dsimp [go_sem, f11]
        refine cond_d (fun hlt => ?_) (fun hlt => ?_)
        · have hlt : i < ps.length := by omega
          obtain ⟨vs, hvl, hrd, hoA, hi'⟩ := id hr
          obtain ⟨B, d', hv, hrB, hoB, hd'⟩ := hi' i hlt
          obtain ⟨b, o, rfl, hcell⟩ := hrd i _ hv
          have hpl := hmem ps[i] (List.getElem_mem hlt)
          have hdr := rowsB_drop hlt
          obtain ⟨p, hp⟩ : ∃ p, p = ps[i] := ⟨_, rfl⟩
          rw [← hp] at hcell hrB hpl hdr
          have hdl : (rowsB (ps.drop i) ++ raw).length ≤ 20000 := by
            have h1 := rowsB_len (ps.drop i) (by
              have h := congrArg load (List.take_append_drop i ps)
              simp only [load, List.map_append, List.sum_append] at h hld ⊢
              omega)
            have h := congrArg load (List.take_append_drop i ps)
            simp only [load, List.map_append, List.sum_append] at h hld h1
            rw [List.length_append]
            omega
          simp -dsimp [go_sem, f11]
          refine call (rBytes_spec g12 _ false F12 w13 hR (by omega)) ?_
          rintro v w14 ⟨hP, hR14, hk14⟩
          rw [hdr, List.append_assoc, bytL_rowB _ _ (by omega)] at hP hR14
          have k14 : Nw w1 w14 := hK.at_ hk14 (Nf.at_ (n12 _ hR.in_))
          have hc14 := k14.cell_some hcell fun h => h
          obtain ⟨A14, c14, rfl, ho14, hA14⟩ := hP
          simp -dsimp [go_sem, f11, hlt, hc14]
          refine call (same_spec A14 B c14 d' p p w14 ho14.rd (hrB.nw k14) (by omega)) ?_
          rintro v w15 ⟨rfl, hk15⟩
          simp -dsimp [go_sem, f11]
          refine call (spoil_spec p w15 A14 c14 (ho14.nw hk15) (by omega)) ?_
          rintro v w16 ⟨rfl, hk16⟩
          have k16 : Nw w1 w16 := (k14.nw hk15).trans hk16 fun j hj hb => by
            obtain ⟨a, rfl, rfl⟩ := blk_of hb
            have := hA14 a rfl
            have := hK.size
            omega
          have hR16 := (hR14.nw hk15).kp_ hk16 fun j hj hb => by
            obtain ⟨a, rfl, rfl⟩ := blk_of hb
            have := hA14 a rfl
            obtain ⟨_, _, _, _, _, _, _, _, _, hlt⟩ := hR
            have := hlt _ hj
            omega
          have hk1 : IntKind.i64.wrap ((i : Int) + 1) = ((i + 1 : Nat) : Int) := w64 (by omega) (by omega)
          obtain ⟨k1, hk1'⟩ : ∃ k1, k1 = i + 1 := ⟨_, rfl⟩
          rw [← hk1'] at hk1
          rw [← hk1'] at hR16
          simp -dsimp [go_sem, f11, hk1]
          exact ⟨⟨k1, by omega, rfl, hR16, k16⟩, by simp [intOf]; omega⟩
        · obtain rfl : i = ps.length := by omega
          rw [List.drop_length] at hR
          simp -dsimp [go_sem]
          refine call (left_spec g12 _ false F12 w13 hR) ?_
          rintro v w14 ⟨rfl, rfl⟩
          have hR : Rdr w13 g12 raw false F12 := hR
          have hl0 : (rowsB [] ++ raw).length = raw.length := rfl
          rw [hl0]
          simp -dsimp [go_sem]
          refine call (raw_spec g12 raw false F12 (raw.length : Int) w13 hR (by omega)) ?_
          rintro v w14 ⟨hP, hR14, hk14⟩
          have hraw1 : rawL raw false (raw.length : Int) = (raw, [], false) := by
            unfold rawL
            rw [if_pos ⟨by omega, Int.le_refl _⟩]
            simp
          rw [hraw1] at hP hR14
          obtain ⟨A14, c14, rfl, ho14, hA14⟩ := hP
          have k14 : Nw w1 w14 := hK.at_ hk14 (Nf.at_ (n12 _ hR.in_))
          simp -dsimp [go_sem]
          refine call (same_spec A14 R c14 d raw raw w14 ho14.rd (hraw.nw k14) (by omega)) ?_
          rintro v w15 ⟨rfl, hk15⟩
          simp -dsimp [go_sem]
          refine call (whole_spec g12 _ false F12 w15 (hR14.nw hk15)) ?_
          rintro v w16 ⟨rfl, rfl⟩
          simp -dsimp [go_sem]
          refine call (known_spec _) ?_
          rintro v w17 ⟨rfl, hk17⟩
          simp -dsimp [go_sem]
          exact (k14.nw hk15).nw hk17
end Go.Proofs.Ytigakpfdahjkdaa
