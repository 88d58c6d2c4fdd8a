/-
  A ledger: Open walked. By the session itself.
-/
import Derived.Test.YthonmjgagblogaaGreatLgE
namespace Go.Proofs.YthonmjgagblogaaGreat
set_option linter.unusedSimpArgs false
set_option linter.unusedVariables false
set_option maxRecDepth 100000
set_option maxHeartbeats 2000000
open Go.Vc Go.RowKit

theorem takesP_ok {base N : Nat} : ∀ (rows : List (List UInt8)) (last : Int) (es : List (List UInt8)) (q : Int × List (List UInt8)), takesP base last es rows = some q → base + es.length ≤ 1099511627776 → (∀ r ∈ rows, r.length ≤ N) → (∀ e ∈ es, e.length ≤ N) → base + q.2.length ≤ 1099511627776 ∧ ∀ e ∈ q.2, e.length ≤ N
  | [], last, es, q, h, h1, h2, h3 => by
    cases h
    exact ⟨h1, h3⟩
  | b :: r, last, es, q, h, h1, h2, h3 => by
    rw [takesP_cons] at h
    cases ht : takeP base last es b with
    | none => rw [ht] at h; cases h
    | some q1 =>
      rw [ht] at h
      obtain ⟨a1, a2, a3, a4⟩ := takeP_some ht h1
      refine takesP_ok r q1.1 q1.2 q h a3 (fun x hx => h2 x (List.mem_cons_of_mem _ hx)) fun e he => ?_
      rcases a4 e he with h | h
      · exact h3 e h
      · exact Nat.le_trans h (h2 b (List.mem_cons_self ..))
theorem logL_ok {D : Dsk} (ok : D.Ok) (p : Nm) {base : Nat} {data : List UInt8} (hb : base ≤ 1099511627776) (hd : data.length ≤ 1073741824) : Led.Ok ⟨base, data, (logL D p base).2.2, false⟩ := by
  have key : base + (logL D p base).2.2.length ≤ 1099511627776 ∧ ∀ e ∈ (logL D p base).2.2, e.length ≤ 1073741824 := by
    unfold logL
    cases hx : tLook D.fs (logN p) with
    | none => exact ⟨by simp; omega, by simp⟩
    | some x =>
      have h1 := dRead_len ok (logN p)
      have hrd : dRead D (logN p) = (x.b, 0) := by unfold dRead; rw [hx]
      rw [hrd] at h1
      have h2 := scanL_len' (x.b.length + 1) x.b
      simp only
      unfold logOf
      cases ht : takesP base (-1) [] (scanL (x.b.length + 1) x.b).1 with
      | none => exact ⟨by simp; omega, by simp⟩
      | some q =>
        have h3 := takesP_ok (N := 1073741824) _ _ _ _ ht (by simp; omega) (fun r hr => by have := h2.2 r hr; simp only at h1; omega) (by simp)
        simp only
        unfold logFin
        split
        · exact h3
        · exact h3
  exact ⟨key.1, hd, key.2⟩
theorem imgL_ok {D : Dsk} (ok : D.Ok) (p : Nm) (h : (imgL D p).2.2 = 0) : (imgL D p).1 ≤ 1099511627776 ∧ (imgL D p).2.1.length ≤ 1073741824 := by
  have h1 := kLoad_len ok (imgN p)
  have hr : (numRow (kLoad D (imgN p)).1).2.2.length ≤ (kLoad D (imgN p)).1.length := by
    have h1 := bytL_len (numL (kLoad D (imgN p)).1 false).2.1 (numL (kLoad D (imgN p)).1 false).2.2
    have h2 := numL_len (kLoad D (imgN p)).1 false
    exact Nat.le_trans h1 h2
  unfold imgL at h ⊢
  by_cases a1 : (kLoad D (imgN p)).2 = 7
  · simp only [if_pos a1]; exact ⟨Nat.zero_le _, by simp⟩
  · simp only [if_neg a1] at h ⊢
    by_cases a2 : (kLoad D (imgN p)).2 ≠ 0
    · simp only [if_pos a2]; exact ⟨Nat.zero_le _, by simp⟩
    · simp only [if_neg a2] at h ⊢
      by_cases a3 : (numRow (kLoad D (imgN p)).1).1 = false ∨ 1099511627776 < (numRow (kLoad D (imgN p)).1).2.1
      · simp only [if_pos a3] at h; cases h
      · exact ⟨by omega, by omega⟩
/-- What is left to be done of Open. -/
def stage (p : Nm) : Nat → Dsk → Led → Dsk × Nat × Led
  | 0, D, _ => opn2 (rmvs D [shadow (imgN p)]) p
  | 1, D, _ => opn3 D p (imgL D p)
  | 2, D, L => ((logL D p L.base).1, (logL D p L.base).2.1, { L with ents := (logL D p L.base).2.2 })
  | _, D, L => (D, 0, L)
def Led.zero : Led := ⟨0, [], [], false⟩
def OpenR (w w' : World) (v : Value) (g : Nat) (p : Nm) (R : Dsk × Nat × Led) (F : Nat → Prop) : Prop :=
  ∃ F', Dk w' g R.1 F' ∧ Gr F F' w w' ∧ Kp F w w' ∧ ((R.2.1 ≠ 0 ∧ v = .tuple #[.pointer none, i64 R.2.1]) ∨ (R.2.1 = 0 ∧ ∃ l G' V', v = .tuple #[.pointer (some ⟨l, 0, none⟩), i64 0] ∧ LS w' l g p R.1 R.2.2 F' G' V' ∧ R.2.2.Ok ∧ Gr F V' w w'))
/-- What opening comes to, with blocks that the ledger is to lie off. -/
def OpenRE (w w' : World) (v : Value) (g : Nat) (p : Nm) (R : Dsk × Nat × Led) (F E : Nat → Prop) : Prop :=
  ∃ F', Dk w' g R.1 F' ∧ Gr F F' w w' ∧ Kp F w w' ∧ ((R.2.1 ≠ 0 ∧ v = .tuple #[.pointer none, i64 R.2.1]) ∨ (R.2.1 = 0 ∧ ∃ l G' V', v = .tuple #[.pointer (some ⟨l, 0, none⟩), i64 0] ∧ LS w' l g p R.1 R.2.2 F' G' V' ∧ R.2.2.Ok ∧ Gr (fun k => F k ∨ E k) V' w w' ∧ (∀ k, E k → V' k) ∧ ∀ k, G' k → w.heap.size ≤ k))
theorem open_specE (E : Nat → Prop) (g : Nat) (p : Nm) (D : Dsk) (F : Nat → Prop) (w : World) (h : Dk w g D F) (hE : ∀ k, E k → k < w.heap.size) (h1 : 1 ≤ p.length) (h2 : p.length ≤ 20) :
    Cal Tryz.prog 18 #[.pointer (some ⟨g, 0, none⟩), str p] w fun v w' => OpenRE w w' v g p (opn D p) F E := by
  refine enter Tryz.mixed Tryz.func18 rfl (by kernel_rfl) ?_
  have h1' : ¬ (p.length : Int) < 1 := by omega
  have h1n : ¬ p.length < 1 := by omega
  have h2' : ¬ (20 : Int) < (p.length : Int) := by omega
  have h2n : ¬ 20 < p.length := by omega
  simp -dsimp [go_sem, h1', h1n, h2', h2n]
  have kl : Nw w (w.alloc (.cells #[.pointer (some ⟨g, 0, none⟩), str p, i64 0, .slice none 0 0, .slice none 0 0, .bool false] 71)) := (Kp.refl _ _).alloc _
  have hb0 := Blk.new w 71 #[.pointer (some ⟨g, 0, none⟩), str p, i64 0, .slice none 0 0, .slice none 0 0, .bool false]
  obtain ⟨l, hl⟩ : ∃ l, l = w.heap.size := ⟨_, rfl⟩
  rw [← hl] at hb0 ⊢
  have hls : (w.alloc (.cells #[.pointer (some ⟨g, 0, none⟩), str p, i64 0, .slice none 0 0, .slice none 0 0, .bool false] 71)).heap.size = l + 1 := by simp [hl]
  have hFl : ∀ k, F k → k < l := fun k hk => by have := h.lt k hk; omega
  have hFE : ∀ k, F k ∨ E k → k < l := fun k hk => hk.elim (hFl k) fun e => by have := hE k e; omega
  have h0 : LS (w.alloc (.cells #[.pointer (some ⟨g, 0, none⟩), str p, i64 0, .slice none 0 0, .slice none 0 0, .bool false] 71)) l g p D Led.zero F (At l) (fun k => (F k ∨ E k) ∨ k = l) :=
    ⟨h.nw kl, ⟨none, 0, none, 0, [], hb0, Rd.nil _ _, (fun a ha => by cases ha), Nat.le_refl _, Ow.nil _ _ _, RV.nil _ _, by simp [Off], fun k hk => hk.elim id fun e => e.elim, fun k e => .inr e, fun k hk => hk.elim (fun e => by have := hFE k e; omega) fun e => by omega⟩, fun k hk => .inl (.inl hk), fun k hk (e : k = l) => by have := hFl k hk; omega⟩
  generalize w.alloc (.cells #[.pointer (some ⟨g, 0, none⟩), str p, i64 0, .slice none 0 0, .slice none 0 0, .bool false] 71) = wl at *
  have kf : Nw wl (wl.alloc (.cells #[.func (.func 27) #[.pointer (some ⟨l, 0, none⟩)] #[], .func (.func 28) #[.pointer (some ⟨l, 0, none⟩)] #[], .func (.func 29) #[.pointer (some ⟨l, 0, none⟩)] #[]] 51)) := (Kp.refl _ _).alloc _
  have hf0 := Blk.new wl 51 #[.func (.func 27) #[.pointer (some ⟨l, 0, none⟩)] #[], .func (.func 28) #[.pointer (some ⟨l, 0, none⟩)] #[], .func (.func 29) #[.pointer (some ⟨l, 0, none⟩)] #[]]
  obtain ⟨fb, hfb⟩ : ∃ fb, fb = l + 1 := ⟨_, rfl⟩
  rw [hls, ← hfb] at hf0
  rw [← hfb]
  have h1 := h0.nw kf
  have kw : Nw w _ := kl.nw kf
  have hfs := hf0.lt
  generalize wl.alloc (.cells #[.func (.func 27) #[.pointer (some ⟨l, 0, none⟩)] #[], .func (.func 28) #[.pointer (some ⟨l, 0, none⟩)] #[], .func (.func 29) #[.pointer (some ⟨l, 0, none⟩)] #[]] 51) = w0 at *
  have hw1 : IntKind.i64.wrap 1 = 1 := w64 (by omega) (by omega)
  have hw2 : IntKind.i64.wrap 2 = 2 := w64 (by omega) (by omega)
  have hw3 : IntKind.i64.wrap 3 = 3 := w64 (by omega) (by omega)
  have ok0 : Led.zero.Ok := ⟨by simp [Led.zero], by simp [Led.zero], by simp [Led.zero]⟩
  have hst : opn D p = stage p 0 D Led.zero := rfl
  rw [hst]
  refine loop [4, 5, 8, 9, 34, 35, 36, 37, 38, 39, 40, 41, 42, 43] (by kernel_rfl)
    (fun f w' => Box1 (fun a w' => ∃ (i : Nat) (D1 : Dsk) (L1 : Led) (F1 G1 V1 : Nat → Prop), a = i64 i ∧ i ≤ 3 ∧ stage p 0 D Led.zero = stage p i D1 L1 ∧ (i ≤ 1 → L1 = Led.zero) ∧ (i ≤ 2 → L1.ents = []) ∧ L1.Ok ∧ LS w' l g p D1 L1 F1 G1 V1 ∧ Gr F F1 w w' ∧ Gr (fun k => F k ∨ E k) V1 w w' ∧ (∀ k, E k → V1 k) ∧ (∀ k, G1 k → w.heap.size ≤ k) ∧ Kp F w w' ∧ ¬ V1 fb ∧ Blk w' fb 51 #[.func (.func 27) #[.pointer (some ⟨l, 0, none⟩)] #[], .func (.func 28) #[.pointer (some ⟨l, 0, none⟩)] #[], .func (.func 29) #[.pointer (some ⟨l, 0, none⟩)] #[]]) (f 34) w') (fun f _ => 3 - (intOf (f 34)).toNat)
    ⟨0, D, Led.zero, F, At l, _, rfl, by omega, rfl, fun _ => rfl, fun _ => rfl, ok0, h1, fun k hk => .inl hk, fun k hk => hk.imp id fun e => ⟨by omega, by omega⟩, fun k hk => .inl (.inr hk), fun k (e : k = l) => by omega, Nw.kp kw F, fun hk => hk.elim (fun e => by have := hFE fb e; omega) fun e => by omega, hf0⟩ ?_
  clear h0 h1 hf0 hfs
  rintro f w1 ⟨i, D1, L1, F1, G1, V1, f34, hi, hst1, hz, hes, ok1, hL, gF, gV, hEV, hGn, hK, hVf, hfb1⟩
  have hfs := hfb1.lt
  match i, hi with
  | 0, _ =>
    have f34 : f 34 = i64 0 := f34
    have c := hfb1.cell 0
    simp -dsimp [go_sem, f34, c]
    refine call (clears_spec l g p D1 L1 F1 G1 V1 w1 hL h2) ?_
    rintro v w2 ⟨rfl, F2, hD2, hG2, hK2⟩
    have hz := hz (by omega)
    subst hz
    obtain ⟨hL2, hV2⟩ := hL.disk hD2 hG2 hK2
    have hes' : stage p 0 D1 Led.zero = if (rmvs D1 [shadow (imgN p)]).2 ≠ 0 then ((rmvs D1 [shadow (imgN p)]).1, (rmvs D1 [shadow (imgN p)]).2, ⟨0, [], [], false⟩) else opn3 (rmvs D1 [shadow (imgN p)]).1 p (imgL (rmvs D1 [shadow (imgN p)]).1 p) := rfl
    rw [hes'] at hst1
    obtain ⟨R, hR⟩ : ∃ R, R = rmvs D1 [shadow (imgN p)] := ⟨_, rfl⟩
    rw [← hR] at hst1 hD2 hL2 ⊢
    obtain ⟨D2, e2⟩ := R
    simp only at hst1 hD2 hL2 ⊢
    have gF2 := Gr.trans gF hG2 hK.size hK2.size
    have kF2 := Kp.gr hK gF hK2
    by_cases he : e2 = 0
    · subst he
      rw [if_neg (fun h => h rfl)] at hst1
      simp -dsimp [go_sem, f34]
      exact ⟨⟨1, D2, Led.zero, F2, G1, _, rfl, by omega, hst1, fun _ => rfl, fun _ => rfl, ok1, hL2, gF2, Gr.trans gV hV2 hK.size hK2.size, fun k hk => .inl (hEV k hk), hGn, kF2, fun e => e.elim hVf fun e => (hG2 fb e).elim (fun e => hVf (hL.fv fb e)) fun e => by omega, hfb1.kp hK2 fun e => hVf (hL.fv fb e)⟩, by simp [intOf, hw1, hw2, hw3]⟩
    · rw [if_pos he] at hst1
      have he' : ((e2 : Int) != 0) = true := by simp; omega
      simp -dsimp [go_sem, he', he]
      rw [hst1]
      exact ⟨F2, hD2, gF2, kF2, .inl ⟨he, rfl⟩⟩
  | 1, _ =>
    have f34 : f 34 = i64 1 := f34
    have c := hfb1.cell 1
    have hz := hz (by omega)
    subst hz
    simp -dsimp [go_sem, f34, c]
    refine call (image_spec l g p D1 F1 G1 V1 w1 hL h2) ?_
    rintro v w2 ⟨rfl, hL2, hK2⟩
    have hes' : stage p 1 D1 Led.zero = if (imgL D1 p).2.2 ≠ 0 then (D1, (imgL D1 p).2.2, ⟨0, [], [], false⟩) else ((logL D1 p (imgL D1 p).1).1, (logL D1 p (imgL D1 p).1).2.1, ⟨(imgL D1 p).1, (imgL D1 p).2.1, (logL D1 p (imgL D1 p).1).2.2, false⟩) := rfl
    rw [hes'] at hst1
    have hio := imgL_ok hL.dk.ok p
    have hGl := hL.lg.gl
    have hL3 := hL.own hL2 (fun k hk => .inl hk) (fun k hk => hk) (hK2.mono fun k _ (e : k = l) => e ▸ hGl)
    have kF2 : Kp F w w2 := hK.trans hK2 fun k hk (e : k = l) => by omega
    obtain ⟨R, hR⟩ : ∃ R, R = imgL D1 p := ⟨_, rfl⟩
    rw [← hR] at hst1 hio hL3 ⊢
    obtain ⟨bs, dt, e2⟩ := R
    simp only at hst1 hio hL3 ⊢
    by_cases he : e2 = 0
    · subst he
      rw [if_neg (fun h => h rfl)] at hst1
      obtain ⟨i1, i2⟩ := hio rfl
      simp -dsimp [go_sem, f34]
      exact ⟨⟨2, D1, ⟨bs, dt, [], false⟩, F1, G1, V1, rfl, by omega, hst1, fun e => by omega, fun _ => rfl, ⟨by simpa using i1, i2, by simp⟩, hL3, Gr.wide gF (Nat.le_refl _) hK2.size, Gr.wide gV (Nat.le_refl _) hK2.size, hEV, hGn, kF2, hVf, hfb1.kp hK2 fun (e : fb = l) => by omega⟩, by simp [intOf, hw1, hw2, hw3]⟩
    · rw [if_pos he] at hst1
      have he' : ((e2 : Int) != 0) = true := by simp; omega
      simp -dsimp [go_sem, he', he]
      rw [hst1]
      exact ⟨F1, hL3.dk, Gr.wide gF (Nat.le_refl _) hK2.size, kF2, .inl ⟨he, rfl⟩⟩
  | 2, _ =>
    have f34 : f 34 = i64 2 := f34
    have c := hfb1.cell 2
    have hes := hes (by omega)
    simp -dsimp [go_sem, f34, c]
    refine call (log_specT l g p D1 L1 F1 G1 V1 w1 hL h2 ok1 hes) ?_
    rintro v w2 ⟨rfl, ⟨F2, V2, hD2, gF2, gV2, hVV2, hFV2, hL2⟩, hK2⟩
    have hes' : stage p 2 D1 L1 = ((logL D1 p L1.base).1, (logL D1 p L1.base).2.1, { L1 with ents := (logL D1 p L1.base).2.2 }) := rfl
    rw [hes'] at hst1
    have hlo := logL_ok hL.dk.ok p (base := L1.base) (data := L1.data) (by have := ok1.last; omega) ok1.data
    have kF2 : Kp F w w2 := hK.trans hK2 fun k hk hv => hv.elim (fun hv => (gF k hv).elim id fun e => by omega) fun hv => by have := hGn k hv; omega
    have gF2' := Gr.trans gF gF2 hK.size hK2.size
    have gV2' := Gr.trans gV gV2 hK.size hK2.size
    obtain ⟨R, hR⟩ : ∃ R, R = logL D1 p L1.base := ⟨_, rfl⟩
    rw [← hR] at hst1 hD2 hL2 hlo ⊢
    obtain ⟨D2, e2, es⟩ := R
    simp only at hst1 hD2 hL2 hlo ⊢
    by_cases he : e2 = 0
    · subst he
      obtain ⟨G2, hL3, hGG⟩ := hL2 rfl
      simp -dsimp [go_sem, f34]
      exact ⟨⟨3, D2, { L1 with ents := es }, F2, G2, V2, rfl, by omega, hst1, fun e => by omega, fun e => by omega, ⟨hlo.1, hlo.2, hlo.3⟩, hL3, gF2', gV2', fun k hk => hVV2 k (hEV k hk), fun k hk => by
        by_cases hl1 : k < w1.heap.size
        · exact hGn k (hGG k hk hl1)
        · have := hK.size; omega, kF2, fun e => (gV2 fb e).elim hVf fun e => by omega, hfb1.kp hK2 fun e => hVf (e.elim (hL.fv fb) (hL.lg.gv fb))⟩, by simp [intOf, hw1, hw2, hw3]⟩
    · have he' : ((e2 : Int) != 0) = true := by simp; omega
      simp -dsimp [go_sem, he', he]
      rw [hst1]
      exact ⟨F2, hD2, gF2', kF2, .inl ⟨he, rfl⟩⟩
  | 3, _ =>
    have f34 : f 34 = i64 3 := f34
    simp -dsimp [go_sem, f34]
    rw [hst1]
    exact ⟨F1, hL.dk, gF, hK, .inr ⟨rfl, l, G1, V1, rfl, hL, ok1, gV, hEV, hGn⟩⟩
theorem open_spec (g : Nat) (p : Nm) (D : Dsk) (F : Nat → Prop) (w : World) (h : Dk w g D F) (h1 : 1 ≤ p.length) (h2 : p.length ≤ 20) :
    Cal Tryz.prog 18 #[.pointer (some ⟨g, 0, none⟩), str p] w fun v w' => OpenR w w' v g p (opn D p) F := by
  refine (open_specE (fun _ => False) g p D F w h (fun _ h => h.elim) h1 h2).mono ?_
  rintro v w' ⟨F', a1, a2, a3, a4⟩
  refine ⟨F', a1, a2, a3, a4.imp id ?_⟩
  rintro ⟨b1, l, G', V', b2, b3, b4, b5, _⟩
  exact ⟨b1, l, G', V', b2, b3, b4, fun k hk => (b5 k hk).imp (fun h => h.elim id fun h => h.elim) id⟩
theorem open_nil (p : Nm) (w : World) : Cal Tryz.prog 18 #[.pointer none, str p] w fun v w' => v = .tuple #[.pointer none, i64 1] ∧ w' = w := by
  refine enter Tryz.mixed Tryz.func18 rfl (by kernel_rfl) ?_
  simp -dsimp [go_sem]
end Go.Proofs.YthonmjgagblogaaGreat
