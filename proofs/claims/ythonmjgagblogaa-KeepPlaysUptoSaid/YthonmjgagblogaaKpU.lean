/-
  KeepPlays walked. By the session itself.
-/
import Derived.Test.YthonmjgagblogaaKpT
namespace Go.Proofs.Ythonmjgagblogaa
set_option linter.unusedSimpArgs false
set_option linter.unusedVariables false
set_option maxRecDepth 100000
set_option maxHeartbeats 1000000
open Go.Vc Go.RowKit

/-- What is known behind a choice said once. -/
theorem cond_cut {P : Program} {a b : Code} {id : Nat} {K : St → World → Prop} {Q : Ex → St → World → Prop} {v : Value} {s : St} {w : World} {k : Stop (walk P a (blockS id (thenS K Q)) .mk s w, walk P b (blockS id (thenS K Q)) .mk s w)} (M : St → World → Prop) (h : wCond v (walk P a (blockS id (thenS M Q)) .mk s w) (walk P b (blockS id (thenS M Q)) .mk s w) .mk)
    (hM : ∀ f w', M f w' → K f w') : wCond v (walk P a (blockS id (thenS K Q)) .mk s w) (walk P b (blockS id (thenS K Q)) .mk s w) k := by
  have hm : ∀ e s w, blockS id (thenS M Q) e s w → blockS id (thenS K Q) e s w := fun e s w => by
    cases e <;> simp only [blockS, thenS]
    · exact hM _ _
    · split
      · exact hM _ _
      · exact fun h => h
    · exact fun h => h
    · exact fun h => h
  obtain ⟨t, e, h1, h2⟩ := h
  exact ⟨t, e, fun h => vcC_mono _ _ _ hm _ _ (h1 h), fun h => vcC_mono _ _ _ hm _ _ (h2 h)⟩
abbrev Bo (w0 w : World) (d x : Nat) (D : Dsk) : Prop := Pr w0 w (fun _ => False) d D x D
theorem bf_made (w : World) : Bf (w.alloc (.cells #[] 5)) (.slice (some ⟨w.heap.size, 0, none⟩) 0 0) [] (At w.heap.size) := by
  obtain ⟨A, c, e, ho, _⟩ := Gs.made w 5 1 0 #[] rfl rfl rfl (by simp [maxLen]) (Nat.le_refl _)
  cases e
  exact ⟨_, _, rfl, ho, fun _ h => h, fun i (e : i = w.heap.size) => by simp; omega⟩
theorem kpLoad_len {D : Dsk} (ok : D.Ok) (s : Nm) : (kLoad D s).1.length ≤ 1073741824 := by
  have h1 := dRead_len ok s
  have h2 := oneL_len (dRead D s).1
  unfold kLoad
  split
  · simp
  · split
    · simp
    · simp only; omega
theorem keepplays_law (room : Int) (A : Option Addr) (c : Nat) (q : List Ks) (w : World) (hr : Rd w A (q.flatMap ksc)) (hG : ∀ p ∈ q, KsG w p) (hl : q.length ≤ 9223372036854775807) :
    Cal Try.prog 4 #[i64 room, .slice A q.length c] w fun v w' => v = .bool true ∧ Nw w w' := by
  refine enter Try.mixed Try.func4 rfl (by kernel_rfl) ?_
  simp -dsimp [go_sem]
  refine call (kheavy_spec A c q w hr hG hl) ?_
  rintro v w1 ⟨⟨r, rfl⟩, hk1⟩
  cases r with
  | true =>
    simp -dsimp [go_sem]
    refine call (kknown_spec _) ?_
    rintro v wk ⟨rfl, hkk⟩
    simp -dsimp [go_sem]
    exact Kp.nw hk1 hkk
  | false =>
    by_cases h0 : room < 0
    · simp -dsimp [go_sem, h0]
      refine call (kknown_spec _) ?_
      rintro v wk ⟨rfl, hkk⟩
      simp -dsimp [go_sem]
      exact Kp.nw hk1 hkk
    by_cases h1 : 1048576 < room
    · simp -dsimp [go_sem, h0, h1]
      refine call (kknown_spec _) ?_
      rintro v wk ⟨rfl, hkk⟩
      simp -dsimp [go_sem]
      exact Kp.nw hk1 hkk
    simp -dsimp [go_sem, h0, h1]
    refine call (new_spec room w1) ?_
    rintro v w2 (⟨hbad, _⟩ | ⟨hr0, hr1, d, F, rfl, hD, nF, hk2⟩)
    · omega
    simp -dsimp [go_sem]
    refine call (rnew_spec room w2) ?_
    rintro v w3 (⟨hbad, _⟩ | ⟨_, _, x, G, rfl, hE, nG, hk3⟩)
    · omega
    have T3 : Bo w w3 d x ⟨room.toNat, [], none⟩ := ⟨F, G, hD.nw hk3, hE, fun i hf hg => by have := nG i hg; have := hD.lt i hf; omega, fun i hi => ⟨Nat.le_trans hk1.size (nF i hi), fun h => h⟩, fun i hi => ⟨by have := nG i hi; have := hk1.size; have := hk2.size; omega, fun h => h⟩, (hk1.nw hk2).nw hk3⟩
    simp -dsimp [go_sem]
    refine loop [4, 9, 10, 11, 12, 13, 14, 15, 16, 17, 18, 19, 20, 21, 49, 50, 51, 52, 53, 54, 55, 56, 57, 58, 59, 60, 61, 62, 63, 64, 65, 66, 67, 68, 69, 70, 71, 72, 73, 74, 75, 76, 77, 78, 79, 80, 81, 82, 83, 84, 85, 86, 87, 88, 89, 90, 91, 92, 93, 94, 95, 96, 97, 98, 99, 100, 101, 102, 103, 104, 105, 106, 107, 108, 109, 110, 111, 112, 113, 114, 115, 116, 117, 118, 119, 120, 121, 122, 123, 124, 125, 126, 127, 128, 129, 130, 131, 132, 133, 134, 135, 136, 137, 138, 139, 140, 141, 142, 143, 144, 145, 146, 147, 148, 149, 150, 151, 152, 153, 154, 155, 156, 157, 158, 159, 160, 161, 162, 163, 164, 165, 166, 167, 168, 169, 170, 171, 172, 173, 174, 175, 176, 177, 178, 179, 180, 181, 182, 183, 184, 185, 186, 187, 188, 189, 190, 191, 192, 193, 194, 195, 196, 197, 198, 199, 200, 201] (by kernel_rfl)
      (fun f w' => Box1 (fun a w' => ∃ (i : Nat) (D : Dsk), a = i64 i ∧ i ≤ q.length ∧ Bo w w' d x D) (f 9) w') (fun f _ => q.length - (intOf (f 9)).toNat)
      ⟨0, _, rfl, Nat.zero_le _, T3⟩ ?_
    clear T3 hE hD nF nG
    rintro f w4 ⟨i, D, f9, hi, T⟩
    have n4 := T.on
    by_cases hlt : i < q.length
    · by_cases h80 : i < 80
      · have h80' : (i : Int) < 80 := by omega
        have hi1 : IntKind.i64.wrap ((i : Int) + 1) = ((i + 1 : Nat) : Int) := w64 (by omega) (by omega)
        obtain ⟨i1, hi1'⟩ : ∃ i1, i1 = i + 1 := ⟨_, rfl⟩
        rw [← hi1'] at hi1
        obtain ⟨g, o, rfl, e0, e1, e2, e3, e4, e5⟩ := ks_at (hr.nw n4) hlt
        have hgi := hG _ (List.getElem_mem hlt)
        generalize q[i] = s at *
        obtain ⟨kd, n, s, a, b, t, va, vb, vt⟩ := s
        obtain ⟨⟨A3, c3, hv3, hr3, hc3⟩, ⟨A4, c4, hv4, hr4, hc4⟩, ⟨A5, c5, hv5, hr5⟩, hsl, hal, hbl, htl, hn1, hn2⟩ := hgi
        simp only at e0 e1 e2 e3 e4 e5 hv3 hv4 hv5 hr3 hr4 hr5 hc3 hc4 hsl hal hbl htl hn1 hn2
        subst hv3; subst hv4; subst hv5
        simp -dsimp [go_sem, f9, hlt, h80, h80', e0, e1, e2, e3, e4, e5,]
        refine cond_cut (fun f' w' => f' 11 = .bool true ∧ f' 5 = .pointer (some ⟨d, 0, none⟩) ∧ f' 7 = .pointer (some ⟨x, 0, none⟩) ∧ f' 9 = i64 i ∧ ∃ D', Bo w w' d x D') ?_ ?_
        · clear e0 e1 e2 e3 e4 e5
          have hx0 := Blk.new w4 46 #[i64 kd, i64 n, str s, .slice A3 a.length c3, .slice A4 b.length c4, .slice A5 t.length c5]
          have ka : Nw w4 (w4.alloc (.cells #[i64 kd, i64 n, str s, .slice A3 a.length c3, .slice A4 b.length c4, .slice A5 t.length c5] 46)) := (Kp.refl _ _).alloc _
          obtain ⟨z, hz⟩ : ∃ z, z = w4.heap.size := ⟨_, rfl⟩
          rw [← hz] at hx0 ⊢
          have T1 : Pr w _ (At z) d D x D := (T.new (N' := At z) fun i (e : i = z) => .inr (by omega)).nw ka
          have hNz : ∀ i, At z i → i < (w4.alloc (.cells #[i64 kd, i64 n, str s, .slice A3 a.length c3, .slice A4 b.length c4, .slice A5 t.length c5] 46)).heap.size := fun i (e : i = z) => by simp; omega
          have hna := n4.nw ka
          generalize w4.alloc (.cells #[i64 kd, i64 n, str s, .slice A3 a.length c3, .slice A4 b.length c4, .slice A5 t.length c5] 46) = wa at *
          have c1 : wa.cell? ⟨z, 1, none⟩ = some (i64 n) := hx0.cell 1
          have c2 : wa.cell? ⟨z, 2, none⟩ = some (str s) := hx0.cell 2
          have c3' : wa.cell? ⟨z, 3, none⟩ = some (.slice A3 a.length c3) := hx0.cell 3
          have c4' : wa.cell? ⟨z, 4, none⟩ = some (.slice A4 b.length c4) := hx0.cell 4
          have c5' : wa.cell? ⟨z, 5, none⟩ = some (.slice A5 t.length c5) := hx0.cell 5
          have hzN : ¬ Ns w (At z) z := fun h => h.2 rfl
          have kd0 : Kp (Ns w (At z)) wa wa.drew := (Kp.refl _ _).drew
          have kdN : Nw wa wa.drew := (Kp.refl _ _).drew
          have c2d := kd0.cell_some c2 hzN
          have c3d := kd0.cell_some c3' hzN
          have c4d := kd0.cell_some c4' hzN
          have c5d := kd0.cell_some c5' hzN
          have hsl' : s.length ≤ 9223372036854775807 := by omega
          by_cases k1 : kd = 1
          · subst k1
            simp -dsimp [go_sem, f9]
            refine draw (.take 0 (.take 1 (.take 2 (.take 3 (.take 4 (.take 5 (.take 6 (.take 9 (.take 10 (.take 11 (.take 13 (.take 14 (.take 16 (.take 17 (.alt 7 (.alt 8 (.alt 12 (.alt 15 (.alt 18 (.alt 19 (.take 20 (.take 21 .done)) .stop) .stop) .stop) .stop) (.alt 12 (.alt 8 (.alt 15 (.alt 18 (.alt 19 (.take 20 (.take 21 .done)) .stop) .stop) .stop) .stop) .stop)) (.alt 12 (.alt 7 (.alt 8 (.alt 15 (.alt 18 (.alt 19 (.take 20 (.take 21 .done)) .stop) .stop) .stop) .stop) .stop) .stop)))))))))))))))) (by kernel_rfl) (fun wz => Kp (Ns w (At z)) wa wz) kd0 ?_
            simp -dsimp [go_sem, f9, c2d, c3d, c4d]
            repeat refine ⟨fun wz hz => by simp [hz.cell_some c2 hzN, hz.cell_some c3' hzN, hz.cell_some c4' hzN], ?_⟩
            have hfl : ([a, b] : List (List UInt8)).flatten = a ++ b := by simp
            have hkd : (wa.drew).heap.size = wa.heap.size := rfl
            have hzs : z < wa.heap.size := hNz z rfl
            have hwz : w.heap.size ≤ wa.heap.size := hna.size
            refine ⟨⟨?_, ?_, ?_, ?_⟩, ?_, ?_, ?_⟩
            · exact Nw.kp (((Kp.refl _ _).alloc _).drew) _
            · have kA : Nw wa (wa.alloc (.cells #[.slice A3 a.length c3, .slice A4 b.length c4] 32)).drew := ((Kp.refl _ _).alloc _).drew
              have hbr : Brs (wa.alloc (.cells #[.slice A3 a.length c3, .slice A4 b.length c4] 32)).drew (some ⟨wa.heap.size, 0, none⟩) [a, b] (fun _ => False) :=
                Brs.two (p := a) (q := b) ((Blk.fresh rfl).nw ((Kp.refl _ _).drew)) (fun h => h) ((hr3.nw hna).nw kA) (fun _ _ h => h) hc3 ((hr4.nw hna).nw kA) (fun _ _ h => h) hc4
              have hsv := T1.psave kA (fun i hi => Nat.lt_of_lt_of_le (hNz i hi) kA.size) s [a, b] _ 2 hbr (by simp) (by simp) (by rw [hfl, List.length_append]; omega)
              rw [hfl] at hsv
              refine call hsv ?_
              rintro u w5 ⟨rfl, T2, hk2⟩
              have hk02 := (Nw.kp kA (Ns w (At z))).trans hk2 fun _ _ h => h
              refine ⟨hk02, ?_⟩
              simp -dsimp [go_sem]
              have ks5 := hk02.size
              have kB : Nw w5 (w5.alloc (.cells #[] 5)) := (Kp.refl _ _).alloc _
              have hBf := bf_made w5
              obtain ⟨b0, hb0⟩ : ∃ b0, b0 = w5.heap.size := ⟨_, rfl⟩
              rw [← hb0] at hBf ⊢
              have T3 : Pr w _ (fun k => k = z ∨ k = b0) d _ x D := (T2.new (N' := fun k => k = z ∨ k = b0) fun i hi => hi.imp id fun e => by omega).nw kB
              have k3 : Kp (Ns w (At z)) wa (w5.alloc (.cells #[] 5)) := Kp.nw hk02 kB
              refine ⟨k3, ?_⟩
              have hwb : wa.heap.size ≤ b0 := by omega
              clear hsv hbr T2 hk2 kA hk02 ks5 
              have hBl : ∀ i, At b0 i → i < (w5.alloc (.cells #[] 5)).heap.size := hBf.lt
              generalize w5.alloc (.cells #[] 5) = W at *
              have hbz : ∀ i, At b0 i → Ns w (At z) i := fun i (e : i = b0) => ⟨by omega, fun (e2 : i = z) => by omega⟩
              refine bf_app (F := At b0) hBf (hr3.nw T3.on) (by simp; omega) ?_
              intro v6 w6 F6 hB6 hG6 hK6
              rw [List.nil_append] at hB6
              have kS6 : Kp (Ns w (At z)) wa w6 := k3.trans hK6 fun i _ hi => hbz i hi
              refine ⟨kS6, ?_⟩
              simp -dsimp [go_sem]
              have hWw : wa.heap.size ≤ W.heap.size := k3.size
              have h6z : ∀ i, F6 i → Ns w (At z) i := fun i hi => (hG6 i hi).elim (hbz i) fun h => ⟨by omega, fun (e : i = z) => by omega⟩
              have T6 : Pr w w6 (fun k => k = z ∨ k = b0 ∨ F6 k) d _ x D := (T3.new (N' := fun k => k = z ∨ k = b0 ∨ F6 k) fun i hi => hi.elim (fun h => .inl (.inl h)) fun hi => hi.elim (fun h => .inl (.inr h)) fun h => (hG6 i h).imp .inr fun h => h.1).kp hK6 fun i hi => ⟨(hbz i hi).1, .inr (.inl hi)⟩
              refine bf_app hB6 (hr4.nw T6.on) (by omega) ?_
              intro v7 w7 F7 hB7 hG7 hK7
              have kS7 : Kp (Ns w (At z)) wa w7 := kS6.trans hK7 fun i _ hi => h6z i hi
              refine ⟨kS7, ?_⟩
              have T7 : Pr w w7 (fun k => k = z ∨ k = b0 ∨ F6 k) d _ x D := T6.kp hK7 fun i hi => ⟨(h6z i hi).1, .inr (.inr hi)⟩
              obtain ⟨A7, c7, rfl, ho7, hA7, hlt7⟩ := hB7
              obtain ⟨p, hp⟩ : ∃ p, p = a ++ b := ⟨_, rfl⟩
              have hpl : p.length ≤ 2097152 := by rw [hp, List.length_append]; omega
              rw [← hp] at ho7 T7 ⊢
              simp -dsimp [go_sem]
              refine call (T7.rsave T.ok (Kp.refl _ _) (fun i hi => hi.elim (fun e => by have := kS7.size; omega) fun hi => hi.elim (fun e => Nat.lt_of_lt_of_le (hBl i e) (Nat.le_trans hK6.size hK7.size)) fun h => Nat.lt_of_lt_of_le (hB6.lt i h) hK7.size) s p A7 c7 ho7.rd (by omega) hsl') ?_
              rintro u w8 ⟨rfl, T8, hk8⟩
              refine ⟨kS7.trans hk8 fun i _ hi => ⟨hi.1, fun h => hi.2 (.inl h)⟩, ?_⟩
              simp -dsimp [go_sem, f9]
              exact ⟨_, T8.new fun i h => h.elim⟩
            · exact Nw.kp ((((Kp.refl _ _).alloc _).alloc _).drew) _
            · have kA : Nw wa ((wa.alloc (.cells #[.slice A3 a.length c3, .slice A4 b.length c4] 32)).alloc (.cells #[] 5)).drew := (((Kp.refl _ _).alloc _).alloc _).drew
              have hbr : Brs ((wa.alloc (.cells #[.slice A3 a.length c3, .slice A4 b.length c4] 32)).alloc (.cells #[] 5)).drew (some ⟨wa.heap.size, 0, none⟩) [a, b] (fun _ => False) :=
                Brs.two (p := a) (q := b) (((Blk.fresh rfl).nw ((Kp.refl _ _).alloc _)).nw ((Kp.refl _ _).drew)) (fun h => h) ((hr3.nw hna).nw kA) (fun _ _ h => h) hc3 ((hr4.nw hna).nw kA) (fun _ _ h => h) hc4
              have hBf0 : Bf ((wa.alloc (.cells #[.slice A3 a.length c3, .slice A4 b.length c4] 32)).alloc (.cells #[] 5)).drew (.slice (some ⟨wa.heap.size + 1, 0, none⟩) 0 0) [] (At (wa.heap.size + 1)) := by
                have h := (bf_made (wa.alloc (.cells #[.slice A3 a.length c3, .slice A4 b.length c4] 32))).nw ((Kp.refl _ _).drew)
                simpa using h
              obtain ⟨b0, hb0⟩ : ∃ b0, b0 = wa.heap.size + 1 := ⟨_, rfl⟩
              rw [← hb0] at hBf0
              have hBl0 := hBf0.lt
              have hT1 : Pr w wa (fun k => k = z ∨ k = b0) d D x D := T1.new (N' := fun k => k = z ∨ k = b0) fun i hi => hi.imp id fun e => by omega
              have hsv := hT1.psave kA (fun i hi => hi.elim (fun e => Nat.lt_of_lt_of_le (hNz i e) kA.size) (hBl0 i)) s [a, b] _ 2 hbr (by simp) (by simp) (by rw [hfl, List.length_append]; omega)
              rw [hfl] at hsv
              refine call hsv ?_
              rintro u W ⟨rfl, T3, hk2⟩
              have k3 : Kp (Ns w (At z)) wa W := (Nw.kp kA (Ns w (At z))).trans hk2 fun i _ hi => ⟨hi.1, fun h => hi.2 (.inl h)⟩
              refine ⟨k3, ?_⟩
              have hBf := hBf0.kp hk2 fun i (e : i = b0) h => h.2 (.inr e)
              have hBl : ∀ i, At b0 i → i < W.heap.size := hBf.lt
              have hwb : wa.heap.size ≤ b0 := by omega
              simp -dsimp [go_sem, ← hb0]
              clear hsv hbr hk2 kA hBf0
              have hbz : ∀ i, At b0 i → Ns w (At z) i := fun i (e : i = b0) => ⟨by omega, fun (e2 : i = z) => by omega⟩
              refine bf_app (F := At b0) hBf (hr3.nw T3.on) (by simp; omega) ?_
              intro v6 w6 F6 hB6 hG6 hK6
              rw [List.nil_append] at hB6
              have kS6 : Kp (Ns w (At z)) wa w6 := k3.trans hK6 fun i _ hi => hbz i hi
              refine ⟨kS6, ?_⟩
              simp -dsimp [go_sem]
              have hWw : wa.heap.size ≤ W.heap.size := k3.size
              have h6z : ∀ i, F6 i → Ns w (At z) i := fun i hi => (hG6 i hi).elim (hbz i) fun h => ⟨by omega, fun (e : i = z) => by omega⟩
              have T6 : Pr w w6 (fun k => k = z ∨ k = b0 ∨ F6 k) d _ x D := (T3.new (N' := fun k => k = z ∨ k = b0 ∨ F6 k) fun i hi => hi.elim (fun h => .inl (.inl h)) fun hi => hi.elim (fun h => .inl (.inr h)) fun h => (hG6 i h).imp .inr fun h => h.1).kp hK6 fun i hi => ⟨(hbz i hi).1, .inr (.inl hi)⟩
              refine bf_app hB6 (hr4.nw T6.on) (by omega) ?_
              intro v7 w7 F7 hB7 hG7 hK7
              have kS7 : Kp (Ns w (At z)) wa w7 := kS6.trans hK7 fun i _ hi => h6z i hi
              refine ⟨kS7, ?_⟩
              have T7 : Pr w w7 (fun k => k = z ∨ k = b0 ∨ F6 k) d _ x D := T6.kp hK7 fun i hi => ⟨(h6z i hi).1, .inr (.inr hi)⟩
              obtain ⟨A7, c7, rfl, ho7, hA7, hlt7⟩ := hB7
              obtain ⟨p, hp⟩ : ∃ p, p = a ++ b := ⟨_, rfl⟩
              have hpl : p.length ≤ 2097152 := by rw [hp, List.length_append]; omega
              rw [← hp] at ho7 T7 ⊢
              simp -dsimp [go_sem]
              refine call (T7.rsave T.ok (Kp.refl _ _) (fun i hi => hi.elim (fun e => by have := kS7.size; omega) fun hi => hi.elim (fun e => Nat.lt_of_lt_of_le (hBl i e) (Nat.le_trans hK6.size hK7.size)) fun h => Nat.lt_of_lt_of_le (hB6.lt i h) hK7.size) s p A7 c7 ho7.rd (by omega) hsl') ?_
              rintro u w8 ⟨rfl, T8, hk8⟩
              refine ⟨kS7.trans hk8 fun i _ hi => ⟨hi.1, fun h => hi.2 (.inl h)⟩, ?_⟩
              simp -dsimp [go_sem, f9]
              exact ⟨_, T8.new fun i h => h.elim⟩
            · exact Nw.kp (((Kp.refl _ _).alloc _).drew) _
            · exact Nw.kp ((((Kp.refl _ _).alloc _).alloc _).drew) _
            · have kA : Nw wa ((wa.alloc (.cells #[] 5)).alloc (.cells #[.slice A3 a.length c3, .slice A4 b.length c4] 32)).drew := (((Kp.refl _ _).alloc _).alloc _).drew
              have hbr : Brs ((wa.alloc (.cells #[] 5)).alloc (.cells #[.slice A3 a.length c3, .slice A4 b.length c4] 32)).drew (some ⟨wa.heap.size + 1, 0, none⟩) [a, b] (fun _ => False) :=
                Brs.two (p := a) (q := b) ((Blk.fresh (by simp)).nw ((Kp.refl _ _).drew)) (fun h => h) ((hr3.nw hna).nw kA) (fun _ _ h => h) hc3 ((hr4.nw hna).nw kA) (fun _ _ h => h) hc4
              have hBf0 : Bf ((wa.alloc (.cells #[] 5)).alloc (.cells #[.slice A3 a.length c3, .slice A4 b.length c4] 32)).drew (.slice (some ⟨wa.heap.size, 0, none⟩) 0 0) [] (At (wa.heap.size)) := by
                have h := ((bf_made wa).nw ((Kp.refl _ _).alloc (.cells #[.slice A3 a.length c3, .slice A4 b.length c4] 32))).nw ((Kp.refl _ _).drew)
                simpa using h
              obtain ⟨b0, hb0⟩ : ∃ b0, b0 = wa.heap.size := ⟨_, rfl⟩
              rw [← hb0] at hBf0
              have hBl0 := hBf0.lt
              have hT1 : Pr w wa (fun k => k = z ∨ k = b0) d D x D := T1.new (N' := fun k => k = z ∨ k = b0) fun i hi => hi.imp id fun e => by omega
              have hsv := hT1.psave kA (fun i hi => hi.elim (fun e => Nat.lt_of_lt_of_le (hNz i e) kA.size) (hBl0 i)) s [a, b] _ 2 hbr (by simp) (by simp) (by rw [hfl, List.length_append]; omega)
              rw [hfl] at hsv
              refine call hsv ?_
              rintro u W ⟨rfl, T3, hk2⟩
              have k3 : Kp (Ns w (At z)) wa W := (Nw.kp kA (Ns w (At z))).trans hk2 fun i _ hi => ⟨hi.1, fun h => hi.2 (.inl h)⟩
              refine ⟨k3, ?_⟩
              have hBf := hBf0.kp hk2 fun i (e : i = b0) h => h.2 (.inr e)
              have hBl : ∀ i, At b0 i → i < W.heap.size := hBf.lt
              have hwb : wa.heap.size ≤ b0 := by omega
              simp -dsimp [go_sem, ← hb0]
              clear hsv hbr hk2 kA hBf0
              have hbz : ∀ i, At b0 i → Ns w (At z) i := fun i (e : i = b0) => ⟨by omega, fun (e2 : i = z) => by omega⟩
              refine bf_app (F := At b0) hBf (hr3.nw T3.on) (by simp; omega) ?_
              intro v6 w6 F6 hB6 hG6 hK6
              rw [List.nil_append] at hB6
              have kS6 : Kp (Ns w (At z)) wa w6 := k3.trans hK6 fun i _ hi => hbz i hi
              refine ⟨kS6, ?_⟩
              simp -dsimp [go_sem]
              have hWw : wa.heap.size ≤ W.heap.size := k3.size
              have h6z : ∀ i, F6 i → Ns w (At z) i := fun i hi => (hG6 i hi).elim (hbz i) fun h => ⟨by omega, fun (e : i = z) => by omega⟩
              have T6 : Pr w w6 (fun k => k = z ∨ k = b0 ∨ F6 k) d _ x D := (T3.new (N' := fun k => k = z ∨ k = b0 ∨ F6 k) fun i hi => hi.elim (fun h => .inl (.inl h)) fun hi => hi.elim (fun h => .inl (.inr h)) fun h => (hG6 i h).imp .inr fun h => h.1).kp hK6 fun i hi => ⟨(hbz i hi).1, .inr (.inl hi)⟩
              refine bf_app hB6 (hr4.nw T6.on) (by omega) ?_
              intro v7 w7 F7 hB7 hG7 hK7
              have kS7 : Kp (Ns w (At z)) wa w7 := kS6.trans hK7 fun i _ hi => h6z i hi
              refine ⟨kS7, ?_⟩
              have T7 : Pr w w7 (fun k => k = z ∨ k = b0 ∨ F6 k) d _ x D := T6.kp hK7 fun i hi => ⟨(h6z i hi).1, .inr (.inr hi)⟩
              obtain ⟨A7, c7, rfl, ho7, hA7, hlt7⟩ := hB7
              obtain ⟨p, hp⟩ : ∃ p, p = a ++ b := ⟨_, rfl⟩
              have hpl : p.length ≤ 2097152 := by rw [hp, List.length_append]; omega
              rw [← hp] at ho7 T7 ⊢
              simp -dsimp [go_sem]
              refine call (T7.rsave T.ok (Kp.refl _ _) (fun i hi => hi.elim (fun e => by have := kS7.size; omega) fun hi => hi.elim (fun e => Nat.lt_of_lt_of_le (hBl i e) (Nat.le_trans hK6.size hK7.size)) fun h => Nat.lt_of_lt_of_le (hB6.lt i h) hK7.size) s p A7 c7 ho7.rd (by omega) hsl') ?_
              rintro u w8 ⟨rfl, T8, hk8⟩
              refine ⟨kS7.trans hk8 fun i _ hi => ⟨hi.1, fun h => hi.2 (.inl h)⟩, ?_⟩
              simp -dsimp [go_sem, f9]
              exact ⟨_, T8.new fun i h => h.elim⟩
          by_cases k2 : kd = 2
          · subst k2
            simp -dsimp [go_sem, f9, c2]
            refine call (T1.pload (Kp.refl _ _) s) ?_
            rintro u w5 ⟨hk5, u5, rfl, hB5⟩
            have c25 := hk5.cell_some c2 fun h => h
            simp -dsimp [go_sem, f9, c25]
            refine call (T1.rload T.ok hk5 s) ?_
            rintro u w6 ⟨hk6, u6, rfl, hB6⟩
            obtain ⟨A7, c7, rfl, ho7, hA7⟩ := id (hB5.nw hk6)
            obtain ⟨A8, c8, rfl, ho8, hA8⟩ := id hB6
            have hkl := kpLoad_len T.ok s
            generalize (kLoad D s).1 = l at *
            generalize (kLoad D s).2 = e at *
            simp -dsimp [go_sem]
            refine call (ksame_spec A7 A8 c7 c8 l l w6 ho7.rd ho8.rd (by omega)) ?_
            rintro u w7 ⟨rfl, hk7⟩
            simp -dsimp [go_sem, f9]
            exact ⟨D, (((T1.nw hk5).nw hk6).nw hk7).new fun i h => h.elim⟩
          by_cases k3 : kd = 3
          · subst k3
            simp -dsimp [go_sem, f9]
            refine draw (.take 0 (.take 1 (.take 2 (.take 3 (.take 4 (.take 6 (.take 7 (.take 8 (.take 9 (.take 10 (.alt 5 (.alt 11 (.take 12 (.take 13 .done)) .stop) .stop))))))))))) (by kernel_rfl) (fun wz => Kp (Ns w (At z)) wa wz) kd0 ?_
            simp -dsimp [go_sem, f9, c2d, c5d]
            repeat refine ⟨fun wz hz => by simp [hz.cell_some c2 hzN, hz.cell_some c5' hzN], ?_⟩
            refine call (T1.pclear kdN (fun i hi => Nat.lt_of_lt_of_le (hNz i hi) kdN.size) s t A5 c5 ((hr5.nw hna).nw kdN) (fun F hF _ => Pr.off hr5 hF) (by omega)) ?_
            rintro u w5 ⟨rfl, T2, hk2⟩
            have hk02 := kd0.trans hk2 fun _ _ h => h
            refine ⟨hk02, ?_⟩
            simp -dsimp [go_sem]
            refine call (T2.rclear T.ok (Kp.refl _ _) (fun i hi => Nat.lt_of_lt_of_le (hNz i hi) hk02.size) s t A5 c5 (hr5.nw T2.on) (fun F hF _ => Pr.off hr5 hF) (by omega)) ?_
            rintro u w6 ⟨rfl, T3, hk3⟩
            refine ⟨hk02.trans hk3 fun _ _ h => h, ?_⟩
            simp -dsimp [go_sem, f9]
            exact ⟨_, T3.new fun i h => h.elim⟩
          by_cases k4 : kd = 4
          · subst k4
            simp -dsimp [go_sem, f9, c1]
            refine call (T1.pcrash (Kp.refl _ _) hNz n) ?_
            rintro u w5 ⟨rfl, T2, hk2⟩
            have c12 := hk2.cell_some c1 hzN
            simp -dsimp [go_sem, c12]
            refine call (T2.rcrash T.ok (Kp.refl _ _) (fun i hi => Nat.lt_of_lt_of_le (hNz i hi) hk2.size) n) ?_
            rintro u w6 ⟨rfl, T3, hk3⟩
            simp -dsimp [go_sem, f9]
            exact ⟨_, T3.new fun i h => h.elim⟩
          by_cases k5 : kd = 5
          · subst k5
            simp -dsimp [go_sem, f9, c1]
            refine call (T1.pfuse (Kp.refl _ _) hNz n hn2) ?_
            rintro u w5 ⟨rfl, T2, hk2⟩
            have c12 := hk2.cell_some c1 hzN
            simp -dsimp [go_sem, c12]
            refine call (T2.rfuse (Kp.refl _ _) (fun i hi => Nat.lt_of_lt_of_le (hNz i hi) hk2.size) n) ?_
            rintro u w6 ⟨rfl, T3, hk3⟩
            simp -dsimp [go_sem, f9]
            exact ⟨_, T3.new fun i h => h.elim⟩
          by_cases k6 : kd = 6
          · subst k6
            simp -dsimp [go_sem, f9]
            refine draw (.take 0 (.take 1 (.take 2 (.take 3 (.take 4 (.take 7 (.take 8 (.take 9 (.take 10 (.take 11 (.alt 5 (.alt 6 (.alt 12 (.take 13 (.take 14 .done)) .stop) .stop) .stop))))))))))) (by kernel_rfl) (fun wz => Kp (Ns w (At z)) wa wz) kd0 ?_
            simp -dsimp [go_sem, f9, c2d, c3d]
            repeat refine ⟨fun wz hz => by simp [hz.cell_some c2 hzN, hz.cell_some c3' hzN], ?_⟩
            have kb : Nw wa (wa.alloc (.cells #[.slice A3 a.length c3] 32)).drew := ((Kp.refl _ _).alloc _).drew
            refine ⟨Nw.kp kb _, ?_⟩
            have hbrs : Brs (wa.alloc (.cells #[.slice A3 a.length c3] 32)).drew (some ⟨wa.heap.size, 0, none⟩) [a] (fun _ => False) :=
              Brs.one (p := a) (d := c3) ((Blk.fresh rfl).nw ((Kp.refl _ _).drew)) (fun h => h) ((hr3.nw hna).nw kb) (fun _ _ h => h) hc3
            refine call (T1.pappend kb (fun i hi => Nat.lt_of_lt_of_le (hNz i hi) kb.size) s a _ 1 hbrs (by omega) (by omega) (by omega)) ?_
            rintro u w5 ⟨rfl, T3, hk3⟩
            have hk23 := (Nw.kp kb (Ns w (At z))).trans hk3 fun _ _ h => h
            refine ⟨hk23, ?_⟩
            simp -dsimp [go_sem]
            refine call (T3.rappend T.ok (Kp.refl _ _) (fun i hi => Nat.lt_of_lt_of_le (hNz i hi) hk23.size) s a A3 c3 (hr3.nw T3.on) (fun F hF _ => Pr.off hr3 hF) (by omega) (by omega)) ?_
            rintro u w6 ⟨rfl, T4, hk4⟩
            refine ⟨hk23.trans hk4 fun _ _ h => h, ?_⟩
            simp -dsimp [go_sem, f9]
            exact ⟨_, T4.new fun i h => h.elim⟩
          have r1 : (kd == 1) = false := by simpa using k1
          have r2 : (kd == 2) = false := by simpa using k2
          have r3 : (kd == 3) = false := by simpa using k3
          have r4 : (kd == 4) = false := by simpa using k4
          have r5 : (kd == 5) = false := by simpa using k5
          have r6 : (kd == 6) = false := by simpa using k6
          simp -dsimp [go_sem, f9, r1, r2, r3, r4, r5, r6]
          exact ⟨D, T1.new fun i h => h.elim⟩
        · rintro f' w5 ⟨f11, f5, f7, f9', D', T'⟩
          clear e0 e1 e2 e3 e4 e5 T D
          obtain ⟨F5, G5, hF5, hG5, _⟩ := id T'
          have ok5 := hF5.ok
          have hmany := ok5.many
          simp -dsimp [go_sem, f5, f7]
          refine call (rlist_spec x D' G5 w5 hG5 ok5) ?_
          rintro u v1 ⟨hk1, A1, c1, rfl, ho1, hA1⟩
          simp -dsimp [go_sem, f11, f5, f7]
          refine call (dlist_spec d D' F5 v1 (hF5.nw hk1)) ?_
          rintro u v2 ⟨hk2, A2, c2, rfl, hr2, hc2, hA2⟩
          have hkl : (keysA D'.fs).length = D'.fs.length := by simp [keysA]
          have hr1 := (ho1.nw hk2).rd
          rw [← hkl] at ho1 ⊢
          obtain ⟨L, hL⟩ : ∃ L, L = keysA D'.fs := ⟨_, rfl⟩
          rw [← hL] at hr1 hr2 hkl ⊢
          have hLl : L.length ≤ 4096 := by rw [hkl]; exact hmany
          simp -dsimp [go_sem, f11, f5, f7]
          refine call (ktexts_spec A2 A1 c2 c1 L L v2 hr2 hr1 (by omega)) ?_
          rintro u v3 ⟨rfl, hk3⟩
          have n3 := (hk1.nw hk2).nw hk3
          have hr3' := hr1.nw hk3
          simp -dsimp [go_sem, f11, f5, f7]
          obtain ⟨M, hM⟩ : ∃ M, M = L.length := ⟨_, rfl⟩
          rw [← hM] at hLl ⊢
          refine loop [4, 17, 18, 19, 20, 21, 174, 175, 176, 177, 178, 179, 180, 181, 182, 183, 184, 185, 186, 187, 188, 189, 190, 191, 192, 193, 194, 195, 196, 197, 198, 199, 200, 201] (by kernel_rfl)
            (fun f w' => Box1 (fun a w' => ∃ k : Nat, a = i64 k ∧ k ≤ M ∧ Nw v3 w') (f 17) w') (fun f _ => M - (intOf (f 17)).toNat) ⟨0, rfl, Nat.zero_le _, Kp.refl _ _⟩ ?_
          rintro f2 w6 ⟨k, f17, hk, n36⟩
          have n6 := n3.nw n36
          by_cases hlt2 : k < M
          · have hlt3 : k < L.length := by omega
            obtain ⟨b6, o6, rfl, hc0⟩ := hr3' k (str L[k]) (by simp [hlt3])
            have hm : L[k] ∈ keysA D'.fs := by rw [← hL]; exact List.getElem_mem hlt3
            have hc : w6.cell? ⟨b6, o6 + k, none⟩ = some (str L[k]) := n36.cell_some hc0 fun h => h
            have hlen := dRead_len ok5 L[k]
            have hk1' : IntKind.i64.wrap ((k : Int) + 1) = ((k + 1 : Nat) : Int) := w64 (by omega) (by omega)
            obtain ⟨k1, hk1''⟩ : ∃ k1, k1 = k + 1 := ⟨_, rfl⟩
            rw [← hk1''] at hk1'
            generalize L[k] = nm at *
            simp -dsimp [go_sem, f17, f5, f7, hlt2, hc]
            refine call (dread_spec nm d D' F5 w6 (hF5.nw n6)) ?_
            rintro u w7 ⟨hk7, u7, rfl, hB7⟩
            have hc7 := hk7.cell_some hc fun h => h
            simp -dsimp [go_sem, f17, f5, f7, hlt2, hc7]
            refine call (rread_spec nm x D' G5 w7 ((hG5.nw n6).nw hk7) ok5) ?_
            rintro u w8 ⟨hk8, u8, rfl, hB8⟩
            obtain ⟨A7, c7, rfl, ho7, hA7⟩ := id (hB7.nw hk8)
            obtain ⟨A8, c8, rfl, ho8, hA8⟩ := id hB8
            generalize (dRead D' nm).1 = l at *
            simp -dsimp [go_sem]
            refine call (ksame_spec A7 A8 c7 c8 l l w8 ho7.rd ho8.rd (by omega)) ?_
            rintro u w9 ⟨rfl, hk9⟩
            simp -dsimp [go_sem, f17, hk1']
            exact ⟨⟨k1, rfl, by omega, ((n36.nw hk7).nw hk8).nw hk9⟩, by simp [intOf]; omega⟩
          · obtain rfl : k = M := by omega
            simp -dsimp [go_sem, f17, f9', hi1]
            exact ⟨⟨i1, D', rfl, by omega, T'.nw n6⟩, by simp [intOf, f9]; omega⟩
      · have h80' : ¬ (i : Int) < 80 := by omega
        simp -dsimp [go_sem, f9, hlt, h80, h80']
        refine call (kknown_spec _) ?_
        rintro v wk ⟨rfl, hkk⟩
        simp -dsimp [go_sem]
        exact Kp.nw n4 hkk
    · obtain rfl : i = q.length := by omega
      simp -dsimp [go_sem, f9]
      refine call (kknown_spec _) ?_
      rintro v wk ⟨rfl, hkk⟩
      simp -dsimp [go_sem]
      exact Kp.nw n4 hkk
end Go.Proofs.Ythonmjgagblogaa
