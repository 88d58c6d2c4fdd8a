/-
  A ledger: clears, image, takes walked. By the session itself.
-/
import Derived.Test.YthonmjgagblogaaGreatLgAm
namespace Go.Proofs.YthonmjgagblogaaGreat
set_option linter.unusedSimpArgs false
set_option linter.unusedVariables false
set_option maxRecDepth 100000
set_option maxHeartbeats 1000000
open Go.Vc Go.RowKit

/-- A ledger and its disk. -/
structure LS (w : World) (l g : Nat) (p : Nm) (D : Dsk) (L : Led) (F G V : Nat → Prop) : Prop where
  dk : Dk w g D F
  lg : Lg w l g p L G V
  fv : ∀ i, F i → V i
  dj : ∀ i, F i → ¬ G i
section
variable {w w' : World} {l g : Nat} {p : Nm} {D D' : Dsk} {L L' : Led} {F F' G G' V V' S : Nat → Prop}
theorem LS.nw (h : LS w l g p D L F G V) (k : Nw w w') : LS w' l g p D L F G V := ⟨h.dk.nw k, h.lg.nw k, h.fv, h.dj⟩
theorem LS.lF (h : LS w l g p D L F G V) : ¬ F l := fun e => h.dj l e h.lg.gl
/-- The disk has turned. -/
theorem LS.disk (h : LS w l g p D L F G V) (hD : Dk w' g D' F') (hG : Gr F F' w w') (hK : Kp F w w') : LS w' l g p D' L F' G (fun i => V i ∨ F' i) ∧ Gr V (fun i => V i ∨ F' i) w w' := by
  have hGV : Gr V (fun i => V i ∨ F' i) w w' := fun i hi => hi.elim .inl fun e => (hG i e).imp (h.fv i) id
  refine ⟨⟨hD, h.lg.step hK (fun i hi => ⟨h.fv i hi, h.dj i hi⟩) hGV fun i hi => .inl hi, fun i hi => .inr hi, fun i hi hg => ?_⟩, hGV⟩
  rcases hG i hi with e | e
  · exact h.dj i e hg
  · have := h.lg.lt i (h.lg.gv i hg); omega
/-- The ledger's own blocks have turned. -/
theorem LS.own (h : LS w l g p D L F G V) (hL : Lg w' l g p L' G' V') (hG : Gr G G' w w') (hV : ∀ i, V i → V' i) (hK : Kp G w w') : LS w' l g p D L' F G' V' :=
  ⟨h.dk.kp hK fun i hf hg => h.dj i hf hg, hL, fun i hi => hV i (h.fv i hi), fun i hf hg => by
    rcases hG i hg with e | e
    · exact h.dj i hf e
    · have := h.dk.lt i hf; omega⟩
end
theorem clears_spec (l g : Nat) (p : Nm) (D : Dsk) (L : Led) (F G V : Nat → Prop) (w : World) (h : LS w l g p D L F G V) (hp : p.length ≤ 20) :
    Cal Tryz.prog 27 #[.pointer (some ⟨l, 0, none⟩)] w fun v w' => v = i64 (rmvs D [shadow (imgN p)]).2 ∧ ∃ F', Dk w' g (rmvs D [shadow (imgN p)]).1 F' ∧ Gr F F' w w' ∧ Kp F w w' := by
  have c0 := h.lg.c0
  have kd : Nw w w.drew := (Kp.refl _ _).drew
  have c0d := kd.cell_some c0 fun h => h
  have c1d := kd.cell_some h.lg.c1 fun h => h
  have hil : (imgN p).length = p.length + 4 := by simp [imgN]
  have hn : ¬ 9223372036854775807 < (imgN p).length + 1 := by omega
  have hcat : (⟨(imgN p).toArray⟩ : ByteArray) ++ ⟨#[126]⟩ = ⟨(shadow (imgN p)).toArray⟩ := cat_str (imgN p) [126]
  have hsl : (shadow (imgN p)).length ≤ 9223372036854775807 := by unfold shadow; rw [List.length_append]; simp; omega
  refine enter Tryz.mixed Tryz.func27 rfl (by kernel_rfl) ?_
  simp -dsimp [go_sem]
  refine draw (.take 0 (.take 1 (.take 2 (.take 3 (.take 4 (.alt 5 (.take 6 (.alt 7 (.alt 8 (.take 9 .done) .stop) .stop)) .stop)))))) (by kernel_rfl) (fun wz => Kp F w wz) (Nw.kp kd F) ?_
  simp -dsimp [go_sem, c0d]
  refine ⟨fun wz hz => by simp [hz.cell_some c0 h.lF], ?_⟩
  refine call (imgname_spec l p w.drew c1d hp) ?_
  rintro v w1 ⟨rfl, rfl⟩
  refine ⟨Nw.kp kd F, ?_⟩
  generalize imgN p = im at *
  generalize shadow im = sh at *
  simp -dsimp [go_sem, hn, hcat]
  have kb : Nw w (w.alloc (.cells #[str sh] 9)).drew := ((Kp.refl _ _).alloc _).drew
  rw [show (Value.string ⟨sh.toArray⟩) = str sh from rfl]
  refine ⟨Nw.kp kb F, ?_⟩
  refine call (removes_spec [sh] (some ⟨w.heap.size, 0, none⟩) 1 g D F _ (h.dk.nw kb) ((Rd.fresh (w := w) rfl rfl).nw ((Kp.refl _ _).drew)) (h.dk.ofl_new (Nat.le_refl _) _) (by simp) (by simpa using hsl)) ?_
  rintro v w2 ⟨rfl, F2, hD2, hG2, hK2⟩
  have hKF := (Nw.kp kb F).trans hK2 fun _ _ h => h
  refine ⟨hKF, ?_⟩
  simp -dsimp [go_sem]
  exact ⟨F2, hD2, Gr.wide hG2 kb.size (Nat.le_refl _), hKF⟩
/-- A ledger's number and data set. -/
theorem Lg.set {w : World} {l g : Nat} {p : Nm} {L : Led} {G V : Nat → Prop} (h : Lg w l g p L G V) (n : Nat) {u : Value} {b : List UInt8} {B0 : Nat} (hu : Bs w u b B0) (hB : ∀ k, V k → k < B0) :
    Lg ((w.setCell ⟨l, 2, none⟩ (i64 n)).setCell ⟨l, 3, none⟩ u) l g p { L with base := n, data := b } G V ∧ Kp (At l) w ((w.setCell ⟨l, 2, none⟩ (i64 n)).setCell ⟨l, 3, none⟩ u) := by
  obtain ⟨B, d, A, c, vs, hb, hr, ho, hd, hA, hv, hAl, h1, h2, h3⟩ := h
  obtain ⟨X, x, rfl, hoX, hX⟩ := hu
  have hVl : V l := h2 _ (h1 _ (.inl rfl))
  have ks : Kp (At l) w ((w.setCell ⟨l, 2, none⟩ (i64 n)).setCell ⟨l, 3, none⟩ (.slice X b.length x)) := ((Kp.refl _ _).setCell_at _ _).setCell_at _ _
  have hXV : Off X V := fun a ha hv => by have := hX a ha; have := hB _ hv; omega
  refine ⟨⟨X, x, A, c, vs, ?_, (hoX.kp ks fun a ha (e : a.block = l) => hXV a ha (e ▸ hVl)).rd, hXV.l _, hoX.2.1, hA.kp ks hAl, hv.gr (ks.mono fun i _ (e : i = l) => e ▸ hVl) (fun i hi => .inl hi), hAl, h1, h2, fun k hk => Nat.lt_of_lt_of_le (h3 k hk) ks.size⟩, ks⟩
  have := (hb.set 2 (i64 n)).set 3 (.slice X b.length x)
  simpa using this
theorem image_spec (l g : Nat) (p : Nm) (D : Dsk) (F G V : Nat → Prop) (w : World) (h : LS w l g p D ⟨0, [], [], false⟩ F G V) (hp : p.length ≤ 20) :
    Cal Tryz.prog 28 #[.pointer (some ⟨l, 0, none⟩)] w fun v w' => v = i64 (imgL D p).2.2 ∧ Lg w' l g p ⟨(imgL D p).1, (imgL D p).2.1, [], false⟩ G V ∧ Kp (At l) w w' := by
  have c0 := h.lg.c0
  have kd : Nw w w.drew := (Kp.refl _ _).drew
  have c0d := kd.cell_some c0 fun h => h
  have c1d := kd.cell_some h.lg.c1 fun h => h
  have e0 : imgL D p = if (kLoad D (imgN p)).2 = 7 then (0, [], 0) else if (kLoad D (imgN p)).2 ≠ 0 then (0, [], (kLoad D (imgN p)).2) else
    ((numRow (kLoad D (imgN p)).1).2.1, (numRow (kLoad D (imgN p)).1).2.2, if (numRow (kLoad D (imgN p)).1).1 = false ∨ 1099511627776 < (numRow (kLoad D (imgN p)).1).2.1 then 3 else 0) := rfl
  have hlen := kLoad_len h.dk.ok (imgN p)
  refine enter Tryz.mixed Tryz.func28 rfl (by kernel_rfl) ?_
  simp -dsimp [go_sem]
  refine draw (.take 0 (.take 1 (.take 2 (.take 3 (.take 4 (.alt 5 (.alt 6 (.take 7 (.take 8 (.take 9 (.take 10 (.take 11 .done))))) .stop) .stop)))))) (by kernel_rfl) (fun wz => Nw w wz) kd ?_
  simp -dsimp [go_sem, c0d]
  refine ⟨fun wz hz => by simp [hz.cell_some c0 fun h => h], ?_⟩
  refine call (imgname_spec l p w.drew c1d hp) ?_
  rintro v w1 ⟨rfl, rfl⟩
  refine ⟨kd, ?_⟩
  simp -dsimp [go_sem]
  refine call (kload_spec (imgN p) g D F _ (h.dk.nw kd)) ?_
  rintro v w2 ⟨hk2, u, rfl, hB⟩
  have n2 := kd.nw hk2
  refine ⟨n2, ?_⟩
  obtain ⟨R, hR⟩ : ∃ R, R = kLoad D (imgN p) := ⟨_, rfl⟩
  rw [← hR] at e0 hlen hB ⊢
  obtain ⟨b, e⟩ := R
  simp only at e0 hlen hB ⊢
  obtain ⟨X, x, rfl, hoX, hX⟩ := id hB
  have h2 := h.nw n2
  simp -dsimp [go_sem]
  by_cases e7 : e = 7
  · subst e7
    rw [if_pos rfl] at e0
    rw [e0]
    simp -dsimp [go_sem]
    exact ⟨h2.lg, Nw.kp n2 _⟩
  have e7' : ((e : Int) == 7) = false := by simp; omega
  rw [if_neg e7] at e0
  by_cases e00 : e = 0
  · subst e00
    rw [if_neg (fun h => h rfl)] at e0
    simp -dsimp [go_sem]
    refine call (newReader_spec X x b w2 hoX.rd (by omega)) ?_
    rintro v w3 ⟨r, rfl, hr, ⟨FR, hRd, hFR⟩, hk3⟩
    simp -dsimp [go_sem]
    refine call (num_spec r b false FR w3 hRd (by omega)) ?_
    rintro v w4 ⟨rfl, hRd4, hk4⟩
    have hnl := numL_len b false
    simp -dsimp [go_sem]
    refine call (rBytes_spec r _ _ FR w4 hRd4 (by omega)) ?_
    rintro v w5 ⟨hB5, hRd5, hk5⟩
    have hrw : w.heap.size ≤ r := Nat.le_trans n2.size hr
    have n5 : Nw w w5 := ((n2.nw hk3).at_ hk4 fun k (e : k = r) => by omega).at_ hk5 fun k (e : k = r) => by omega
    have h5 := h.nw n5
    have hV5 : ∀ k, V k → k < w4.heap.size := fun k hk => by have := h.lg.lt k hk; have := ((n2.nw hk3).at_ hk4 fun k (e : k = r) => by omega).size; omega
    obtain ⟨B0, d0, A0, c00, vs0, hb5, _⟩ := id h5.lg
    have q2 := hb5.cell 2
    have q3 := hb5.cell 3
    have f2 := hb5.frozen 2
    have f3 := hb5.frozen 3
    obtain ⟨hL6, hk6⟩ := h5.lg.set (numL b false).1 hB5 hV5
    obtain ⟨Y, y, rfl, hoY, hY⟩ := id hB5
    have hw6 : ∀ k, FR k → k ≠ l := fun k hk e => by have := hFR k hk; have := h2.lg.lt l (h2.lg.gv l h2.lg.gl); omega
    have hRd6 := hRd5.kp_ hk6 fun k hk (e : k = l) => hw6 k hk e
    have n6 : Kp (At l) w ((w5.setCell ⟨l, 2, none⟩ (i64 (numL b false).1)).setCell ⟨l, 3, none⟩ (.slice Y (bytL (numL b false).2.1 (numL b false).2.2).1.length y)) := (Nw.kp n5 _).trans hk6 fun _ _ h => h
    have hl2 := hL6.c2
    have en : numRow b = (!(bytL (numL b false).2.1 (numL b false).2.2).2.2 && (bytL (numL b false).2.1 (numL b false).2.2).2.1.isEmpty, (numL b false).1, (bytL (numL b false).2.1 (numL b false).2.2).1) := rfl
    rw [en] at e0
    simp only at e0 hl2
    generalize (bytL (numL b false).2.1 (numL b false).2.2).2.2 = bad at *
    generalize (bytL (numL b false).2.1 (numL b false).2.2).2.1 = rest at *
    generalize (bytL (numL b false).2.1 (numL b false).2.2).1 = data at *
    obtain ⟨yl, hyl⟩ : ∃ yl, yl = data.length := ⟨_, rfl⟩
    rw [← hyl] at hL6 n6 hk6 hRd6 hl2 ⊢
    generalize (numL b false).1 = n at *
    simp -dsimp [go_sem, q2, q3, f2, f3]
    generalize (w5.setCell ⟨l, 2, none⟩ (i64 n)).setCell ⟨l, 3, none⟩ (.slice Y yl y) = w6 at *
    refine call (whole_spec r rest bad FR w6 hRd6) ?_
    rintro u w7 ⟨rfl, rfl⟩
    cases hwh : (!bad && rest.isEmpty) with
    | false =>
      rw [hwh, if_pos (.inl rfl)] at e0
      rw [e0]
      simp -dsimp [go_sem]
      exact ⟨hL6, n6⟩
    | true =>
      rw [hwh] at e0
      by_cases hbig : 1099511627776 < n
      · rw [if_pos (.inr hbig)] at e0
        have hbig' : (1099511627776 : Int) < (n : Int) := by omega
        rw [e0]
        simp -dsimp [go_sem, hl2, hbig, hbig']
        exact ⟨hL6, n6⟩
      · rw [if_neg (by simp; omega)] at e0
        have hbig' : ¬ (1099511627776 : Int) < (n : Int) := by omega
        rw [e0]
        simp -dsimp [go_sem, hl2, hbig, hbig']
        exact ⟨hL6, n6⟩
  · rw [if_pos e00] at e0
    rw [e0]
    have e0' : ((e : Int) != 0) = true := by simp; omega
    simp -dsimp [go_sem, e7', e0', e7]
    exact ⟨h2.lg, Nw.kp n2 _⟩
end Go.Proofs.YthonmjgagblogaaGreat
