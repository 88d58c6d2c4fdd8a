/-
  Read, Fuse, Crash of a disk walked. By the session itself.
-/
import Derived.Test.YthonmjgagblogaaDkD
namespace Go.Proofs.Ythonmjgagblogaa
set_option linter.unusedSimpArgs false
set_option linter.unusedVariables false
set_option maxRecDepth 100000
set_option maxHeartbeats 1000000
open Go.Vc Go.RowKit

theorem _root_.Go.Vc.Ow.cap {w : World} {e : TypeId} {sz n c c' : Nat} {A : Option Addr} {xs : List Value} (h : Ow w e sz A n c xs) (h1 : n ≤ c') (h2 : c' ≤ c) : Ow w e sz A n c' xs := by
  obtain ⟨g1, g2, g3, g4⟩ := h
  refine ⟨g1, h1, Nat.le_trans h2 g3, ?_⟩
  rcases g4 with ⟨rfl, rfl⟩ | ⟨g, cur, rfl, hg, h5, h6⟩
  · exact .inl ⟨rfl, by omega⟩
  · exact .inr ⟨g, cur, rfl, hg, Nat.le_trans (Nat.mul_le_mul_right _ h2) h5, h6⟩
def dRead (D : Dsk) (s : Nm) : List UInt8 × Nat := match tLook D.fs s with
  | none => ([], 7)
  | some x => (x.b, 0)
theorem dRead_len {D : Dsk} (ok : D.Ok) (a : Nm) : (dRead D a).1.length ≤ 1073741824 := by
  have h1 := ok.used
  have h2 := ok.room
  unfold dRead
  cases hl : tLook D.fs a with
  | none => simp
  | some f =>
    have h3 := sumv_ge (fun f : Fil => f.b.length) hl
    have h5 : D.used = sumv (fun f : Fil => f.b.length) D.fs := rfl
    simp only
    omega
theorem dread_spec (s : Nm) (g : Nat) (D : Dsk) (F : Nat → Prop) (w : World) (h : Dk w g D F) :
    Cal Try.prog 36 #[.pointer (some ⟨g, 0, none⟩), str s] w fun v w' => Nw w w' ∧ ∃ u, v = .tuple #[u, i64 (dRead D s).2] ∧ Bs w' u (dRead D s).1 w.heap.size := by
  obtain ⟨ok, r, z, ptr, Fs, h⟩ := h
  have K : KeyS Try.prog 9 (fun s : Nm => str s) := keyL (by kernel_rfl)
  have hmt : Try.prog.underlying 83 = some (.map 9 89) := by kernel_rfl
  have g1 := h.blk.cell 1
  have hlk := lookup_mp K hmt (z := .pointer none) (w := w) rfl h.mp s false
  refine enter Try.mixed Try.func36 rfl (by kernel_rfl) ?_
  cases hx : tLook D.fs s with
  | none =>
    have e : dRead D s = ([], 7) := by unfold dRead; rw [hx]
    have hm1 : Mf ptr D.fs s = none := by simp [Mf, hx]
    rw [hm1] at hlk
    simp -dsimp [go_sem, g1, hlk]
    rw [e]
    exact ⟨Kp.refl _ _, _, ⟨rfl, rfl⟩, Bs.nil _ _⟩
  | some x =>
    have e : dRead D s = (x.b, 0) := by unfold dRead; rw [hx]
    have hm1 : Mf ptr D.fs s = some (.pointer (some ⟨ptr s, 0, none⟩)) := by simp [Mf, hx]
    rw [hm1] at hlk
    obtain ⟨u, G, hb, hBf, hnG, hin, hlt⟩ := h.files s x hx
    obtain ⟨A, c, rfl, ho, ho1, ho2⟩ := id hBf
    have h0 := hb.cell 0
    have hxu : x.b.length ≤ D.used := sumv_ge (fun f : Fil => f.b.length) hx
    have := ok.used
    have := ok.room
    simp -dsimp [go_sem, g1, hlk, h0]
    refine call (clone_spec A c x.b w ho.rd (by omega)) ?_
    rintro v w1 ⟨hB, hk⟩
    simp -dsimp [go_sem]
    rw [e]
    exact ⟨hk, v, ⟨rfl, rfl⟩, hB⟩

def dFuse (D : Dsk) (n : Int) : Dsk := { D with left := if n < 0 then none else some n.toNat }
theorem dfuse_spec (n : Int) (hn : n ≤ 9223372036854775807) (g : Nat) (D : Dsk) (F : Nat → Prop) (w : World) (h : Dk w g D F) :
    Cal Try.prog 30 #[.pointer (some ⟨g, 0, none⟩), i64 n] w fun v w' => v = .tuple #[] ∧ Dk w' g (dFuse D n) F ∧ Kp (At g) w w' := by
  obtain ⟨ok, r, z, ptr, Fs, h⟩ := h
  have h2 := h.blk.cell 2
  have hf2 := h.blk.frozen 2
  have hb2 := Blk.set0 h.blk 2 (.bool (decide (0 ≤ n))) rfl
  have h3 := hb2.cell 3
  have hf3 := hb2.frozen 3
  have hb3 := Blk.set0 hb2 3 (i64 (max 0 n)) rfl
  refine enter Try.mixed Try.func30 rfl (by kernel_rfl) ?_
  simp -dsimp [go_sem, h2, hf2, h3, hf3]
  have hk : Kp (At g) w ((w.setCell ⟨g, 2, none⟩ (.bool (decide (0 ≤ n)))).setCell ⟨g, 3, none⟩ (i64 (max 0 n))) := ((Kp.refl _ _).setCell_at _ _).setCell_at _ _
  have hng : ∀ s i, Fs s i → ¬ At g i := fun s i hi (e : i = g) => (h.inn s i hi).2.1 e
  refine ⟨⟨⟨ok.srt, ok.room, ok.used, ok.many, ok.lasts, fun m hm => ?_, ok.names⟩, r, max 0 n, ptr, Fs, ⟨?_, fun m hm => ?_, h.mp.kp hk (fun e => h.ne e.symm), fun s f hf => (h.files s f hf).kp hk (hng s),
      h.apart, h.inn, h.ne, h.fg, h.fr, fun i hi => Nat.lt_of_lt_of_le (h.lt i hi) hk.size⟩⟩, hk⟩
  · unfold dFuse at hm
    simp only at hm
    split at hm
    · cases hm
    · cases hm; omega
  · have e : (dFuse D n).left.isSome = decide (0 ≤ n) := by
      unfold dFuse
      simp only
      split
      · simp; omega
      · simp; omega
    rw [e]
    exact hb3
  · unfold dFuse at hm
    simp only at hm
    split at hm
    · cases hm
    · cases hm; omega

/-- What a crash leaves of a file. -/
def cutF (d : Nat) (x : Fil) : Fil := ⟨x.b.take (x.l + d % (x.b.length - x.l + 1)), x.l + d % (x.b.length - x.l + 1)⟩
def dCrash (D : Dsk) (n : Int) : Dsk := { D with fs := mapv (cutF n.toNat) D.fs, left := none }
theorem cutF_le (d : Nat) {x : Fil} (h : x.l ≤ x.b.length) : (cutF d x).l ≤ x.b.length ∧ (cutF d x).b.length = (cutF d x).l := by
  have : d % (x.b.length - x.l + 1) < x.b.length - x.l + 1 := Nat.mod_lt _ (by omega)
  unfold cutF
  simp only [List.length_take]
  omega
theorem sumv_mapv_le {β : Type} (n : β → Nat) (c : β → β) (l : List (Nm × β)) (h : ∀ x ∈ l, n (c x.2) ≤ n x.2) : sumv n (mapv c l) ≤ sumv n l := by
  unfold sumv mapv
  induction l with
  | nil => simp
  | cons x l ih =>
    have h1 := h x (by simp)
    have h2 := ih fun y hy => h y (by simp [hy])
    simp only [List.map_cons, List.sum_cons] at h2 ⊢
    omega
theorem Dsk.Ok.crash {D : Dsk} (h : D.Ok) (n : Int) : (dCrash D n).Ok := by
  have hl : ∀ x ∈ D.fs, x.2.l ≤ x.2.b.length := fun ⟨s, x⟩ hx => h.lasts s x ((tLook_mem h.srt).2 hx)
  have hu : (dCrash D n).used ≤ D.used := sumv_mapv_le _ _ _ fun x hx => by
    have := cutF_le n.toNat (hl x hx)
    omega
  refine ⟨h.srt.mapv _, h.room, Nat.le_trans hu h.used, by simpa [dCrash, mapv] using h.many, fun s f hf => ?_, by simp [dCrash], fun s f hf => ?_⟩
  · unfold dCrash at hf
    simp only [tLook_mapv] at hf
    cases hx : tLook D.fs s with
    | none => rw [hx] at hf; cases hf
    | some x =>
      rw [hx] at hf
      cases hf
      have := cutF_le n.toNat (h.lasts s x hx)
      omega
  · unfold dCrash at hf
    simp only [tLook_mapv] at hf
    cases hx : tLook D.fs s with
    | none => rw [hx] at hf; cases hf
    | some x => exact h.names s x hx
theorem dcrash_spec (n : Int) (g : Nat) (D : Dsk) (F : Nat → Prop) (w : World) (h : Dk w g D F) :
    Cal Try.prog 17 #[.pointer (some ⟨g, 0, none⟩), i64 n] w fun v w' => v = .tuple #[] ∧ Dk w' g (dCrash D n) F ∧ Kp F w w' := by
  obtain ⟨ok, r, z, ptr, Fs, h⟩ := h
  have h1 := h.blk.cell 1
  have K : KeyS Try.prog 9 (fun s : Nm => str s) := keyL (by kernel_rfl)
  have hmt : Try.prog.underlying 83 = some (.map 9 89) := by kernel_rfl
  obtain ⟨w1, hrun, hR, hk1⟩ := range_mp hmt h.mp
  refine enter Try.mixed Try.func17 rfl (by kernel_rfl) ?_
  simp -dsimp [go_sem, h1, hrun]
  have hu : D.used ≤ 1073741824 := Nat.le_trans ok.used ok.room
  have hrl := h.lt r h.fr
  have hgl := h.lt g h.fg
  obtain ⟨it, hit⟩ : ∃ it, it = w.heap.size := ⟨_, rfl⟩
  rw [← hit] at hR ⊢
  have hFs : ∀ t k, Fs t k → k < it := fun t k hk => by rw [hit]; exact h.lt k (h.inn t k hk).1
  have hps : ∀ s x, tLook D.fs s = some x → Fs s (ptr s) := fun s x hx => by
    obtain ⟨u, G', _, _, _, hin, _⟩ := h.files s x hx
    exact hin _ (.inl rfl)
  refine loop [5, 6, 14, 15, 16, 17, 18, 19, 20, 21, 22, 23, 24, 25, 26, 27, 28, 29, 30, 31, 32, 33, 34, 35, 36, 37, 38, 39, 40, 41, 42, 43, 44, 45, 46, 47, 48, 49, 50] (by kernel_rfl)
    (fun _ w' => Box (∃ (left : Nm → Bool), Rg w' it r (fun s : Nm => str s) (Mf ptr D.fs) (fun s => left s = true) ∧ (∀ s x, tLook D.fs s = some x → FileAt w' (ptr s) (if left s then x else cutF n.toNat x) (Fs s)) ∧ Kp (fun k => ∃ s, Fs s k) w w')) (fun _ w' => rgN w' it r)
    ⟨fun _ => true, by simpa using hR, fun s x hx => (h.files s x hx).kp hk1 fun _ _ h => h, hk1.kp _⟩ ?_
  rintro s0 w2 ⟨left, hR, hF, hK⟩
  have hb2 := h.blk.kp hK fun ⟨t, ht⟩ => (h.inn t g ht).2.1 rfl
  rcases next_rg (P := Try.prog) K.inj hR 0 with ⟨hend, hnext⟩ | ⟨a, v, w3, ha, hla, hnext, hR2, hK2, hN2, hentry⟩
  · have h2 := hb2.cell 2
    have hf2 := hb2.frozen 2
    simp -dsimp [go_sem, hnext, h2, hf2]
    have hset : Kp (At g) w2 (w2.setCell ⟨g, 2, none⟩ (.bool false)) := (Kp.refl _ _).setCell_at _ _
    have hng : ∀ s i, Fs s i → ¬ At g i := fun s i hi (e : i = g) => (h.inn s i hi).2.1 e
    have hkF : Kp F w w2 := hK.mono fun i _ ⟨t, ht⟩ => (h.inn t i ht).1
    refine ⟨⟨ok.crash n, r, z, ptr, Fs, ⟨Blk.set0 hb2 2 (.bool false) rfl, by simp [dCrash], ?_, fun s f hf => ?_, h.apart, h.inn, h.ne, h.fg, h.fr, fun i hi => Nat.lt_of_lt_of_le (h.lt i hi) (hkF.trans hset fun i _ (e : i = g) => e ▸ h.fg).size⟩⟩, hkF.trans hset fun i _ (e : i = g) => e ▸ h.fg⟩
    · have e : Mf ptr (dCrash D n).fs = Mf ptr D.fs := by
        funext t
        unfold dCrash Mf
        simp only [tLook_mapv]
        cases tLook D.fs t <;> rfl
      rw [e]
      exact hR.mp.kp hset fun e => h.ne (e : r = g).symm
    · unfold dCrash at hf
      simp only [tLook_mapv] at hf
      cases hx : tLook D.fs s with
      | none => rw [hx] at hf; cases hf
      | some x =>
        rw [hx] at hf
        cases hf
        have hle : left s = false := by
          have := hend s (.pointer (some ⟨ptr s, 0, none⟩)) (by simp [Mf, hx])
          simpa using this
        have := hF s x hx
        rw [hle] at this
        exact this.kp hset (hng s)
  · obtain ⟨x, hx⟩ : ∃ x, tLook D.fs a = some x := by
      cases hx : tLook D.fs a with
      | none => simp [Mf, hx] at ha
      | some x => exact ⟨x, rfl⟩
    have hv : v = .pointer (some ⟨ptr a, 0, none⟩) := by
      simp [Mf, hx] at ha
      exact ha.symm
    subst hv
    have hitF : ∀ t i, Fs t i → ¬ At it i := fun t i hi (e : i = it) => by have := hFs t i hi; omega
    have hfa := (hF a x hx).kp hK2 (hitF a)
    rw [if_pos hla] at hfa
    obtain ⟨u, G, hb, hBf, hnG, hin, hlt⟩ := hfa
    obtain ⟨A, c, rfl, ho, ho1, ho2⟩ := id hBf
    have f0 := hb.cell 0
    have f1 := hb.cell 1
    have hcut := cutF_le n.toNat (ok.lasts a x hx)
    have hxl := ok.lasts a x hx
    have hxu : x.b.length ≤ D.used := sumv_ge (fun f : Fil => f.b.length) hx
    have hsub : IntKind.i64.wrap ((x.b.length : Int) - (x.l : Int)) = ((x.b.length - x.l : Nat) : Int) := by rw [w64 (by omega) (by omega)]; omega
    obtain ⟨q, hq⟩ : ∃ q, q = x.b.length - x.l := ⟨_, rfl⟩
    rw [← hq] at hsub
    have hq1 : IntKind.i64.wrap ((q : Int) + 1) = ((q + 1 : Nat) : Int) := w64 (by omega) (by omega)
    have hrem : (max 0 n).tmod ((q + 1 : Nat) : Int) = ((n.toNat % (q + 1) : Nat) : Int) := by
      have e : max 0 n = (n.toNat : Int) := by omega
      rw [e, Int.tmod_eq_emod_of_nonneg (by omega)]
      rfl
    have hcl : (cutF n.toNat x).l = x.l + n.toNat % (q + 1) := by rw [hq]; rfl
    have hcb : (cutF n.toNat x).b = x.b.take (cutF n.toNat x).l := rfl
    obtain ⟨q1, hq1'⟩ : ∃ q1, q1 = q + 1 := ⟨_, rfl⟩
    rw [← hq1'] at hq1 hrem hcl
    have hq1n : ¬ q1 = 0 := by omega
    obtain ⟨t, ht⟩ : ∃ t, t = n.toNat % q1 := ⟨_, rfl⟩
    rw [← ht] at hrem hcl
    obtain ⟨m, hm⟩ : ∃ m, m = (cutF n.toNat x).l := ⟨_, rfl⟩
    rw [← hm] at hcl hcut hcb
    have hadd : IntKind.i64.wrap ((x.l : Int) + (t : Int)) = (m : Int) := by rw [w64 (by omega) (by omega)]; omega
    have hmc : m ≤ c := by have := ho.2.1; omega
    have hmc' : (m : Int) ≤ (c : Int) := by omega
    have hF3 : ∀ s x, tLook D.fs s = some x → FileAt w3 (ptr s) (if left s then x else cutF n.toNat x) (Fs s) := fun s x hx => (hF s x hx).kp hK2 (hitF s)
    have hK3 : Kp (fun k => ∃ s, Fs s k) w w3 := hK.trans hK2 fun i hi (e : i = it) => by omega
    have hfr0 := hb.frozen 0
    have hbs := Blk.set0 hb 0 (.slice A m m) rfl
    have f11 := hbs.cell 1
    have hfr1 := hbs.frozen 1
    have hbs2 := Blk.set0 hbs 1 (i64 m) rfl
    simp -dsimp [go_sem, hnext, hentry]
    refine draw (.take 0 (.take 1 (.take 2 (.take 3 (.take 4 (.take 5 (.take 6 (.take 7 (.take 8 (.take 9 (.take 10 (.take 11 (.take 12 (.take 13 (.take 14 (.take 15 (.take 16 (.take 17 (.take 18 (.take 19 .done)))))))))))))))))))) (by kernel_rfl) (fun w' => w'.heap = w3.heap) rfl ?_
    have hcell : ∀ w' : World, w'.heap = w3.heap → ∀ a, w'.cell? a = w3.cell? a := fun w' h a => by simp [World.cell?, h]
    simp -dsimp [go_sem, f0, f1, hsub, hq1, hrem, hq1n, hadd]
    refine ⟨fun w' h => by simp [hcell w' h, f1], fun w' h => by simp [hcell w' h, f0], fun w' h => by simp [hcell w' h, f1], ?_⟩
    have hd : w3.drew.frozen? ⟨ptr a, 0, none⟩ = false := hfr0
    simp -dsimp [go_sem, f0, hmc, hmc', hfr0, f11, hfr1]
    have hset : Kp (At (ptr a)) w3 (((w3.setCell ⟨ptr a, 0, none⟩ (.slice A m m)).setCell ⟨ptr a, 1, none⟩ (i64 m)).drew) := (((Kp.refl _ _).setCell_at _ _).setCell_at _ _).drew
    have hpa := hps a x hx
    obtain ⟨hR4, hN4⟩ := hR2.kp hset (fun e => by have := hFs a _ hpa; have e : it = ptr a := e; omega) (fun e => (h.inn a _ hpa).2.2 (Eq.symm e))
    refine ⟨⟨fun s => left s && !decide (s = a), by simpa using hR4, fun s y hy => ?_, hK3.trans hset fun i _ (e : i = ptr a) => ⟨a, e ▸ hpa⟩⟩, by rw [hN4]; exact hN2⟩
    by_cases hsa : s = a
    · subst hsa
      rw [hx] at hy
      cases hy
      show FileAt _ _ (if (left s && !decide (s = s)) = true then x else _) _
      rw [if_neg (by simp)]
      have hB4 : Bf w3 (.slice A m m) (cutF n.toNat x).b G := by
        have h1 := (ho.take (m := m) (by omega)).cap (Nat.le_refl _) hmc
        rw [Nat.mul_one, ← List.map_take, ← hcb] at h1
        exact ⟨A, m, by rw [hcut.2], by rw [hcut.2]; exact h1, ho1, ho2⟩
      exact ⟨_, G, by rw [← hm]; exact hbs2, hB4.kp hset fun i hi (e : i = ptr s) => hnG (e ▸ hi), hnG, hin, fun k hk => Nat.lt_of_lt_of_le (hlt k hk) hset.size⟩
    · have e : (left s && !decide (s = a)) = left s := by simp [hsa]
      show FileAt _ _ (if (left s && !decide (s = a)) = true then y else _) _
      rw [e]
      exact (hF3 s y hy).kp hset fun i hi (e : i = ptr a) => h.apart s a i hsa hi (e ▸ hpa)
end Go.Proofs.Ythonmjgagblogaa
