/-
  OctetCuts walked: rows whose bytes are cut short. By the session itself.
-/
import Derived.Test.YtigakpfdahjkdaaOctM
import Derived.Test.YtigakpfdahjkdaaOctJ
namespace Go.Proofs.Ytigakpfdahjkdaa
set_option linter.unusedSimpArgs false
set_option linter.unusedVariables false
open Go.Vc Go.RowKit

/-- A slice whose memory lies in F. -/
def Gf (w : World) (e : TypeId) (sz : Nat) (v : Value) (n : Nat) (xs : List Value) (F : Nat → Prop) : Prop := ∃ A c, v = .slice A n c ∧ Ow w e sz A n c xs ∧ (∀ k, blk A k → F k) ∧ (∀ k, F k → k < w.heap.size)
section
variable {w w' : World} {e : TypeId} {sz n : Nat} {v : Value} {xs : List Value} {F S : Nat → Prop}
theorem Gf.nil (w : World) (e : TypeId) (sz : Nat) : Gf w e sz (.slice none 0 0) 0 [] (fun _ => False) := ⟨none, 0, rfl, Ow.nil _ _ _, fun _ h => h, fun _ h => h.elim⟩
theorem Gf.kp (h : Gf w e sz v n xs F) (k : Kp S w w') (hd : ∀ i, F i → ¬ S i) : Gf w' e sz v n xs F := by
  obtain ⟨A, c, rfl, ho, h1, h2⟩ := h
  exact ⟨A, c, rfl, ho.kp k (Off.of_blk fun i hi => hd _ (h1 _ hi)), h1, fun i hi => Nat.lt_of_lt_of_le (h2 i hi) k.size⟩
theorem Gf.nw (h : Gf w e sz v n xs F) (k : Nw w w') : Gf w' e sz v n xs F := h.kp k fun _ _ h => h
theorem Gf.lt (h : Gf w e sz v n xs F) : ∀ k, F k → k < w.heap.size := by
  obtain ⟨_, _, _, _, _, h⟩ := h
  exact h
end
theorem gf_app {P : Program} {K : Value → World → Prop} {k : Stop K} {w : World} {t ty e : TypeId} {sz bytes : Nat} {z : Value} (T : SlT P t e sz bytes z) {X : Option Addr} {v : Value} {n m d : Nat} {xs ys : List Value} {F : Nat → Prop}
    (ho : Gf w e sz v n xs F) (hr : Rd w X ys) (hm : ys.length = m * sz) (h1 : ∀ u ∈ ys, u.oneCell' = true) (h63 : n + m ≤ 9223372036854775807) (hb : (n + m) * bytes ≤ 140737488355328)
    (h : ∀ v' w' F', Gf w' e sz v' (n + m) (xs ++ ys) F' → Gr F F' w w' → Kp F w w' → K v' w') :
    wV K k (appS P #[t, t] ty #[v, .slice X m d] w) := by
  obtain ⟨A, c, rfl, ho, g1, g2⟩ := ho
  refine app T ho hr hm h1 h63 hb fun A' c' w' ho' hk hAA => ?_
  refine h _ w' (blk A') ⟨A', c', rfl, ho', fun _ h => h, fun i hi => ?_⟩ (fun i hi => ?_) (hk.mono fun i _ hi => g1 i hi)
  · obtain ⟨a, rfl, rfl⟩ := blk_of hi
    exact ho'.lt a rfl
  · rcases hAA with rfl | ⟨rfl, hlt⟩
    · exact .inl (g1 i hi)
    · have hi : i = w.heap.size := hi
      subst hi
      exact .inr ⟨Nat.le_refl _, hlt⟩

theorem takeN_short : ∀ (n i u m : Nat), m < (numB n).length → takeN i u ((numB n).take m) = none := by
  intro n
  induction n using Nat.strongRecOn with
  | _ n ih =>
    intro i u m hm
    match m with
    | 0 => simp [takeN]
    | m + 1 =>
      by_cases h : n < 128
      · rw [numB_small h] at hm; simp at hm
      · rw [numB_big h] at hm ⊢
        have e : (UInt8.ofNat (n % 128 + 128)).toNat = n % 128 + 128 := by simp; omega
        rw [List.length_cons] at hm
        rw [List.take_succ_cons]
        simp only [takeN, e]
        split
        · rfl
        · rw [if_neg (by omega)]
          exact ih (n / 128) (by omega) _ _ m (by omega)
theorem bytL_gone : bytL [] true = ([], [], true) := by
  simp [bytL, numL, takeN, rawL]
theorem bytL_short (p : List UInt8) (hp : p.length ≤ 4611686018427387904) (m : Nat) (hm : m < (rowB p).length) : bytL ((rowB p).take m) false = ([], [], true) := by
  unfold rowB at hm ⊢
  rw [List.length_append] at hm
  by_cases h : m < (numB p.length).length
  · rw [List.take_append_of_le_length (by omega)]
    unfold bytL numL
    rw [takeN_short _ _ _ _ h]
    simp [rawL]
  · rw [List.take_append, List.take_of_length_le (by omega)]
    unfold bytL
    rw [numL_numB _ _ _ hp]
    unfold rawL
    rw [if_neg (by rw [List.length_take]; omega)]
theorem rowB_pos (p : List UInt8) : 1 ≤ (rowB p).length := by
  have := numB_pos p.length
  rw [rowB, List.length_append]; omega

/-- What is left behind so many rows, and whether it erred. -/
def cutSt (ps : List (List UInt8)) (cut i : Nat) : List UInt8 × Bool := if (rowsB (ps.take i)).length ≤ cut then ((rowsB (ps.drop i)).take (cut - (rowsB (ps.take i)).length), false) else ([], true)
theorem cut_in (ps : List (List UInt8)) (cut i : Nat) (hi : i < ps.length) (hp : ps[i].length ≤ 4611686018427387904) (h : (rowsB (ps.take (i + 1))).length ≤ cut) : bytL (cutSt ps cut i).1 (cutSt ps cut i).2 = (ps[i], (cutSt ps cut (i + 1)).1, (cutSt ps cut (i + 1)).2) ∧ (cutSt ps cut (i + 1)).2 = false := by
  have hl := congrArg List.length (rowsB_take hi)
  rw [List.length_append] at hl
  unfold cutSt
  rw [if_pos (by omega), if_pos h, rowsB_drop hi]
  refine ⟨?_, rfl⟩
  have e : (rowB ps[i] ++ rowsB (ps.drop (i + 1))).take (cut - (rowsB (ps.take i)).length) = rowB ps[i] ++ (rowsB (ps.drop (i + 1))).take (cut - (rowsB (ps.take (i + 1))).length) := by
    rw [List.take_append, List.take_of_length_le (by omega)]
    congr 2
    omega
  rw [e]
  exact bytL_rowB _ _ hp
theorem cut_out (ps : List (List UInt8)) (cut i : Nat) (hi : i < ps.length) (hp : ps[i].length ≤ 4611686018427387904) (h : ¬ (rowsB (ps.take (i + 1))).length ≤ cut) : bytL (cutSt ps cut i).1 (cutSt ps cut i).2 = ([], [], true) ∧ cutSt ps cut (i + 1) = ([], true) := by
  have hl := congrArg List.length (rowsB_take hi)
  rw [List.length_append] at hl
  refine ⟨?_, by unfold cutSt; rw [if_neg h]⟩
  unfold cutSt
  by_cases h0 : (rowsB (ps.take i)).length ≤ cut
  · rw [if_pos h0, rowsB_drop hi, List.take_append_of_le_length (by omega)]
    exact bytL_short _ hp _ (by omega)
  · rw [if_neg h0]
    exact bytL_gone

/-- Where each row ends. -/
def endsV (ps : List (List UInt8)) (i : Nat) : List Value := (List.range i).map fun j => i64 (rowsB (ps.take (j + 1))).length
theorem endsV_succ (ps : List (List UInt8)) (i : Nat) : endsV ps (i + 1) = endsV ps i ++ [i64 (rowsB (ps.take (i + 1))).length] := by
  unfold endsV
  rw [List.range_succ, List.map_append]
  rfl

theorem cuts_law (ps : List (List UInt8)) (a : Int) (A : Option Addr) (c : Nat) (w : World) (hr : Brs w A ps fun _ => False) (hc : ps.length ≤ c) :
    Cal Try.prog 9 #[.slice A ps.length c, i64 a] w fun u w' => u = .bool true ∧ Nw w w' := by
  refine enter Try.mixed Try.func9 rfl (by kernel_rfl) ?_
  simp -dsimp [go_sem]
  refine call (heavy_spec ps w A c _ hr) ?_
  rintro v w1 ⟨heavy, rfl, hwei, rfl⟩
  cases heavy with
  | true =>
    simp -dsimp [go_sem]
    exact Kp.refl _ _
  | false =>
    have hwei := hwei rfl
    simp -dsimp [go_sem]
    refine cond_e (fun h0 => ?_) (fun h0 => ?_)
    · simp -dsimp [go_sem]
      exact Kp.refl _ _
    · have h0 : 0 < ps.length := by omega
      have hge := wei_ge ps
      have hld := load_wei ps
      have hmem := fun p hp => Nat.le_trans (wei_mem ps p hp) hwei
      simp -dsimp [go_sem]
      refine loop [5, 6, 7, 19, 20, 21, 22, 23, 24, 25, 26, 27, 28, 29, 30, 31, 32, 33, 34, 35, 36] (by kernel_rfl)
        (fun f w' => Box3 (fun a b d w' => ∃ i F G, i ≤ ps.length ∧ d = i64 (i : Nat) ∧ Bf w' a (rowsB (ps.take i)) F ∧ Gf w' 3 1 b i (endsV ps i) G ∧ (∀ j, F j → ¬ G j) ∧ Nf w1 F ∧ Nf w1 G ∧ Nw w1 w') (f 5) (f 6) (f 7) w')
        (fun f _ => ps.length - (intOf (f 7)).toNat) ⟨0, fun _ => False, fun _ => False, Nat.zero_le _, rfl, Bf.nil _, Gf.nil _ _ _, fun _ h => h.elim, fun _ h => h.elim, fun _ h => h.elim, Kp.refl _ _⟩ ?_
      rintro f w3 ⟨i, F, G, hi, f7, hB, hE, dFG, nF, nG, hK⟩
      have hlt1 := load_take ps i
      have hrl := rowsB_len (ps.take i) (by omega)
      simp -dsimp [go_sem, f7]
      refine cond_d (fun hlt => ?_) (fun hlt => ?_)
      · have hlt : i < ps.length := by omega
        obtain ⟨vs, hvl, hrd, hoA, hi'⟩ := id hr
        obtain ⟨B, d', hv, hrB, hoB, hd'⟩ := hi' i hlt
        obtain ⟨b, o, rfl, hcell⟩ := hrd i _ hv
        have hc3 := hK.cell_some hcell fun h => h
        have hpl := hmem ps[i] (List.getElem_mem hlt)
        have htk := rowsB_take hlt
        have hen := endsV_succ ps i
        have hlt2 := load_take ps (i + 1)
        have hrl2 := rowsB_len (ps.take (i + 1)) (by omega)
        obtain ⟨p, hp⟩ : ∃ p, p = ps[i] := ⟨_, rfl⟩
        rw [← hp] at hc3 hcell hrB hpl htk hd'
        have h9 := numB_len9 (n := p.length) (by omega)
        have hrowl : (rowB p).length ≤ p.length + 9 := by simp [rowB]; omega
        simp -dsimp [go_sem, f7, hlt, hc3]
        refine call (refBytes_spec p B d' w3 (hrB.nw hK) (by omega)) ?_
        rintro v w8 ⟨⟨A8, c8, rfl, ho8, hA8⟩, hk8⟩
        have k8 := hK.nw hk8
        simp -dsimp [go_sem]
        refine bf_app (hB.nw hk8) ho8.rd (by omega) ?_
        intro v9 w9 F9 hB9 hG9 hK9
        rw [← htk] at hB9
        have k9 : Nw w1 w9 := k8.at_ hK9 nF
        have nF9 := nF.gr hG9 k8.size
        have hE9 := (hE.nw hk8).kp hK9 fun j hg hf => dFG j hf hg
        have dF9 : ∀ j, F9 j → ¬ G j := hG9.dj dFG (hE.nw hk8).lt
        obtain ⟨A9, c9, rfl, ho9, h91, h92⟩ := id hB9
        obtain ⟨x, hx⟩ : ∃ x, x = (rowsB (ps.take (i + 1))).length := ⟨_, rfl⟩
        rw [← hx] at hen hB9 ⊢
        simp -dsimp [go_sem]
        have ka : Nw w9 (w9.alloc (.cells #[i64 x] 3)) := (Kp.refl _ _).alloc _
        refine gf_app Try.Sint (hE9.nw ka) (Rd.fresh (xs := [i64 x]) rfl rfl) (m := 1) (by simp) (by simp [Value.oneCell']) (by omega) (by omega) ?_
        intro v10 w10 G10 hE10 hG10 hK10
        have hB10 := (hB9.nw ka).kp hK10 dF9
        rw [← hen] at hE10
        have hk1 : IntKind.i64.wrap ((i : Int) + 1) = ((i + 1 : Nat) : Int) := w64 (by omega) (by omega)
        obtain ⟨k1, hk1'⟩ : ∃ k1, k1 = i + 1 := ⟨_, rfl⟩
        rw [← hk1'] at hk1
        rw [← hk1'] at hB10 hE10
        simp -dsimp [go_sem, f7, hk1]
        exact ⟨⟨k1, F9, G10, by omega, rfl, hB10, hE10, fun j hf hg => hG10.dj (fun j hg hf => dF9 j hf hg) (hB9.nw ka).lt j hg hf, nF9, nG.gr hG10 (k9.alloc (.cells #[i64 x] 3)).size, (k9.alloc (.cells #[i64 x] 3)).at_ hK10 nG⟩, by simp [intOf]; omega⟩
      · obtain rfl : i = ps.length := by omega
        rw [List.take_length] at hB hrl
        obtain ⟨A5, c5, f5, ho5, hA5, _⟩ := hB
        obtain ⟨A6, c6, f6, ho6, hA6, _⟩ := hE
        obtain ⟨total, ht⟩ : ∃ total, total = (rowsB ps).length := ⟨_, rfl⟩
        have htpos : 0 < total := by
          have h1 := rowsB_drop (ps := ps) (k := 0) h0
          have h2 := rowB_pos ps[0]
          have h3 := congrArg List.length h1
          rw [List.drop_zero, List.length_append] at h3
          omega
        rw [← ht] at ho5 hrl f5
        have hand := i64_and30 a
        have hrem : (a % 1073741824).tmod (total : Int) = (((a % 1073741824).toNat % total : Nat) : Int) := by
          have e : a % 1073741824 = ((a % 1073741824).toNat : Int) := by omega
          rw [Int.tmod_eq_emod_of_nonneg (by omega)]
          generalize (a % 1073741824).toNat = n at e ⊢
          rw [e]
          rfl
        have hjl : (a % 1073741824).toNat % total < total := Nat.mod_lt _ htpos
        obtain ⟨cut, hj⟩ : ∃ cut, cut = (a % 1073741824).toNat % total := ⟨_, rfl⟩
        rw [← hj] at hrem hjl
        have hne0 : ¬ total = 0 := by omega
        have hcc : cut ≤ c5 := by have := ho5.2.1; omega
        simp -dsimp [go_sem, f5, f6, hand, hrem, hne0, hcc]
        have hrd5 : Rd w3 A5 (((rowsB ps).take cut).map u8) := by
          rw [List.map_take]; exact ho5.rd.take cut
        have hlt : ((rowsB ps).take cut).length = cut := by rw [List.length_take]; omega
        have hnr := newReader_spec A5 c5 ((rowsB ps).take cut) w3 hrd5 (by omega)
        rw [hlt] at hnr
        refine call hnr ?_
        rintro v w12 ⟨g12, rfl, hg12, ⟨F12, hR12, hF12⟩, hk12⟩
        have k12 := hK.nw hk12
        have n12 : Nf w1 F12 := fun j hj => by
          have := (hF12 j hj).1
          have := hK.size
          omega
        have hst0 : cutSt ps cut 0 = ((rowsB ps).take cut, false) := by
          unfold cutSt
          rw [List.take_zero, if_pos (by simp [rowsB])]
          simp [rowsB]
        simp -dsimp [go_sem]
        refine loop [4, 10, 11, 48, 49, 50, 51, 52, 53, 54, 55, 56, 57, 58, 59, 60, 61, 62, 63, 64, 65, 66, 67, 68, 69, 70, 71, 72, 73, 74, 75, 76, 77, 78, 79, 80, 81, 82, 83, 84, 85] (by kernel_rfl)
          (fun f w' => Box1 (fun a w' => ∃ i : Nat, i ≤ ps.length ∧ a = i64 i ∧ Rdr w' g12 (cutSt ps cut i).1 (cutSt ps cut i).2 F12 ∧ Kp (Fr w3.heap.size) w3 w') (f 10) w')
          (fun f _ => ps.length - (intOf (f 10)).toNat) ⟨0, Nat.zero_le _, rfl, by rw [hst0]; exact hR12, hk12.kp _⟩ ?_
        rintro f2 w13 ⟨i, hi, f10, hR, hKf⟩
        have hK13 : Nw w1 w13 := hK.fr hKf hK.size
        have hstl : (cutSt ps cut i).1.length ≤ 20000 := by
          unfold cutSt
          split
          · rw [List.length_take]; omega
          · simp
        simp -dsimp [go_sem, f10]
        refine cond_d (fun hlt => ?_) (fun hlt => ?_)
        · have hlt : i < ps.length := by omega
          obtain ⟨vs, hvl, hrd, hoA, hi'⟩ := id hr
          obtain ⟨B, d', hv, hrB, hoB, hd'⟩ := hi' i hlt
          obtain ⟨b, o, rfl, hcell⟩ := hrd i _ hv
          have hpl := hmem ps[i] (List.getElem_mem hlt)
          have hin := cut_in ps cut i hlt (by omega)
          have hout := cut_out ps cut i hlt (by omega)
          have hlt2 := load_take ps (i + 1)
          have hrl2 := rowsB_len (ps.take (i + 1)) (by omega)
          simp -dsimp [go_sem, f10]
          refine call (rBytes_spec g12 _ _ F12 w13 hR (by omega)) ?_
          rintro v w14 ⟨hP, hR14, hk14⟩
          have hg3 : w3.heap.size ≤ g12 := hg12
          have kf14 : Kp (Fr w3.heap.size) w3 w14 := hKf.trans hk14 fun j _ (h : j = g12) => (by omega : w3.heap.size ≤ j)
          have k14 : Nw w1 w14 := hK.fr kf14 hK.size
          have hc14 := k14.cell_some hcell fun h => h
          obtain ⟨be, oe, rfl, hce⟩ := ho6.rd i (i64 (rowsB (ps.take (i + 1))).length) (by simp [endsV, hlt])
          have hce14 := kf14.cell_some hce (fun h => by
            have := World.block_lt_of_cell? w3 _ hce
            have h : w3.heap.size ≤ be := h
            simp at this
            omega)
          have he : (rowsB (ps.take (i + 1))).length = (rowsB (ps.take (i + 1))).length := rfl
          obtain ⟨x, hx⟩ : ∃ x, x = (rowsB (ps.take (i + 1))).length := ⟨_, rfl⟩
          rw [← hx] at hin hout hce14 hrl2
          obtain ⟨A14, c14, rfl, ho14, hA14⟩ := hP
          simp -dsimp [go_sem, f10, hlt, hce14, f6]
          refine cond_d (fun hle => ?_) (fun hle => ?_)
          · have hle : x ≤ cut := by omega
            obtain ⟨h1, h2⟩ := hin hle
            rw [h1] at ho14 hR14 ⊢
            have hR15 := hR14
            rw [h2] at hR14
            obtain ⟨p, hp⟩ : ∃ p, p = ps[i] := ⟨_, rfl⟩
            simp only [← hp] at ho14 hc14 hrB hpl ⊢
            simp -dsimp [go_sem, f10, hlt, hc14]
            refine call (same_spec A14 B c14 d' p p w14 ho14.rd (hrB.nw k14) (by omega)) ?_
            rintro v w15 ⟨rfl, hk15⟩
            simp -dsimp [go_sem]
            refine call (good_spec g12 _ _ F12 w15 (hR14.nw hk15)) ?_
            rintro v w16 ⟨rfl, rfl⟩
            simp -dsimp [go_sem]
            have hk1 : IntKind.i64.wrap ((i : Int) + 1) = ((i + 1 : Nat) : Int) := w64 (by omega) (by omega)
            obtain ⟨k1, hk1'⟩ : ∃ k1, k1 = i + 1 := ⟨_, rfl⟩
            rw [← hk1'] at hk1
            rw [← hk1'] at hR15
            simp -dsimp [go_sem, f10, hk1]
            exact ⟨⟨k1, by omega, rfl, hR15.nw hk15, kf14.nw hk15⟩, by simp [intOf]; omega⟩
          · have hle : ¬ x ≤ cut := by omega
            obtain ⟨h1, h2⟩ := hout hle
            rw [h1] at ho14 hR14 ⊢
            simp -dsimp [go_sem]
            refine call (good_spec g12 _ _ F12 w14 hR14) ?_
            rintro v w16 ⟨rfl, rfl⟩
            simp -dsimp [go_sem]
            refine call (left_spec g12 _ _ F12 w14 hR14) ?_
            rintro v w16 ⟨rfl, rfl⟩
            simp -dsimp [go_sem]
            have hk1 : IntKind.i64.wrap ((i : Int) + 1) = ((i + 1 : Nat) : Int) := w64 (by omega) (by omega)
            obtain ⟨k1, hk1'⟩ : ∃ k1, k1 = i + 1 := ⟨_, rfl⟩
            rw [← hk1'] at hk1
            rw [← hk1'] at h2
            simp -dsimp [go_sem, f10, hk1]
            exact ⟨⟨k1, by omega, rfl, by rw [h2]; exact hR14, kf14⟩, by simp [intOf]; omega⟩
        · obtain rfl : i = ps.length := by omega
          have hstn : cutSt ps cut ps.length = ([], true) := by
            unfold cutSt
            rw [List.take_length, if_neg (show ¬ (rowsB ps).length ≤ cut by omega)]
          rw [hstn] at hR
          simp -dsimp [go_sem]
          refine call (whole_spec g12 _ _ F12 w13 hR) ?_
          rintro v w14 ⟨rfl, rfl⟩
          simp -dsimp [go_sem]
          refine call (num_spec g12 _ _ F12 w13 hR (by simp)) ?_
          rintro v w14 ⟨rfl, hR14, hk14⟩
          have hn0 : (numL [] true).1 = 0 := rfl
          rw [hn0]
          have k14 : Nw w1 w14 := hK13.at_ hk14 (Nf.at_ (n12 _ hR.in_))
          simp -dsimp [go_sem]
          refine call (known_spec _) ?_
          rintro v w17 ⟨rfl, hk17⟩
          simp -dsimp [go_sem]
          exact k14.nw hk17
end Go.Proofs.Ytigakpfdahjkdaa
