/-
  Truncate, Rename of a disk walked. By the session itself.
-/
import Derived.Test.YthonmjgagblogaaGreatDkE
namespace Go.Proofs.YthonmjgagblogaaGreat
set_option linter.unusedSimpArgs false
set_option linter.unusedVariables false
set_option maxRecDepth 100000
set_option maxHeartbeats 1000000
open Go.Vc Go.RowKit

def dRename (D : Dsk) (a b : Nm) : Dsk × Nat := if mayL D [a, b] ≠ 0 then (D, mayL D [a, b]) else match tLook D.fs a with
  | none => (D, 7)
  | some x => (Dsk.done { D with fs := tLay (tGone D.fs a) b x }, 0)
theorem sumv_swap {fs : List (Nm × Fil)} (hs : Srt fs) (n : Fil → Nat) {a b : Nm} {x : Fil} (hx : tLook fs a = some x) : sumv n (tLay (tGone fs a) b x) ≤ sumv n fs := by
  have h1 := sumv_gone fs n a
  have h2 := sumv_lay (hs.tGone a) n b x
  rw [hx] at h1
  simp only [Option.map_some, Option.getD_some] at h1
  omega
theorem Dsk.Ok.ren {D : Dsk} (h : D.Ok) (a b : Nm) (x : Fil) (hx : tLook D.fs a = some x) (hn : b.length ≤ 64) : Dsk.Ok { D with fs := tLay (tGone D.fs a) b x } := by
  have hs := sumv_swap h.srt (fun f : Fil => f.b.length) (b := b) hx
  have hu : D.used = sumv (fun f : Fil => f.b.length) D.fs := rfl
  have hused := h.used
  have hl := gone_len D.fs a
  have hl2 := lay_len (h.srt.tGone a) b x
  have hm := h.many
  have hpos := List.length_pos_of_mem (tLook_some hx)
  rw [hx] at hl
  simp only [Option.isSome_some, if_true] at hl
  refine ⟨(h.srt.tGone a).tLay b x, h.room, by unfold Dsk.used; simp only; omega, ?_, fun t y hy => ?_, h.left, fun t y hy => ?_⟩
  · simp only
    rw [hl2]
    split <;> omega
  · simp only [tLook_lay] at hy
    split at hy
    · cases hy
      exact h.lasts a _ hx
    · rw [tLook_gone h.srt] at hy
      split at hy
      · cases hy
      · exact h.lasts t y hy
  · simp only [tLook_lay] at hy
    split at hy
    · rename_i e; rw [e]; exact hn
    · rw [tLook_gone h.srt] at hy
      split at hy
      · cases hy
      · exact h.names t y hy
theorem drename_spec (a b : Nm) (g : Nat) (D : Dsk) (F : Nat → Prop) (w : World) (h : Dk w g D F) (ha : a.length ≤ 9223372036854775807) (hb : b.length ≤ 9223372036854775807) :
    Cal Tryz.prog 80 #[.pointer (some ⟨g, 0, none⟩), str a, str b] w fun v w' => v = i64 (dRename D a b).2 ∧ Dk w' g (dRename D a b).1 F ∧ Kp F w w' := by
  have K : KeyS Tryz.prog 9 (fun s : Nm => str s) := keyL (by kernel_rfl)
  have hmt : Tryz.prog.underlying 38 = some (.map 9 47) := by kernel_rfl
  refine enter Tryz.mixed Tryz.func80 rfl (by kernel_rfl) ?_
  simp -dsimp [go_sem]
  have ka : Nw w (w.alloc (.cells #[str a, str b] 9)) := (Kp.refl _ _).alloc _
  refine call (may_spec [a, b] (some ⟨w.heap.size, 0, none⟩) 2 g D F _ (h.nw ka) (Rd.fresh rfl rfl) (by simp) (by simp; omega)) ?_
  rintro v w1 ⟨rfl, rfl⟩
  have hst : dRename D a b = if mayL D [a, b] ≠ 0 then (D, mayL D [a, b]) else match tLook D.fs a with
      | none => (D, 7)
      | some x => (Dsk.done { D with fs := tLay (tGone D.fs a) b x }, 0) := rfl
  have hmz := @mayL_ok D [a, b]
  obtain ⟨e, he⟩ : ∃ e, e = mayL D [a, b] := ⟨_, rfl⟩
  rw [← he] at hst hmz ⊢
  by_cases h0 : e = 0
  · subst h0
    have hmz := hmz rfl
    rw [if_neg (fun h => h rfl)] at hst
    obtain ⟨ok, r, z, ptr, Fs, hM⟩ := id (h.nw ka)
    have g1 := hM.blk.cell 1
    have hlk := lookup_mp K hmt (z := .pointer none) (w := w.alloc (.cells #[str a, str b] 9)) rfl hM.mp a false
    cases hx : tLook D.fs a with
    | none =>
      have hm1 : Mf ptr D.fs a = none := by simp [Mf, hx]
      rw [hm1] at hlk
      rw [hx] at hst
      simp -dsimp [go_sem, g1, hlk]
      rw [hst]
      exact ⟨rfl, h.nw ka, ka.kp F⟩
    | some x =>
      have hm1 : Mf ptr D.fs a = some (.pointer (some ⟨ptr a, 0, none⟩)) := by simp [Mf, hx]
      rw [hm1] at hlk
      rw [hx] at hst
      obtain ⟨w2, hdel, hm2, hk2⟩ := delete_mp (ty := 0) K hmt hM.mp a
      have hdel' : deleteS Tryz.prog #[38, 9] 0 #[.map (some r), str a] (w.alloc (.cells #[str a, str b] 9)) = .ok (.tuple #[]) w2 := hdel
      obtain ⟨w3, hup, hm3, hk3⟩ := update_mp K hmt hm2 b (.pointer (some ⟨ptr a, 0, none⟩))
      have hk23 : Kp (At r) (w.alloc (.cells #[str a, str b] 9)) w3 := hk2.trans hk3 fun _ _ h => h
      have hb2 := hM.blk.kp hk2 (fun e => hM.ne e)
      have g12 := hb2.cell 1
      simp -dsimp [go_sem, g1, hlk, hdel', g12, hup]
      have hng : ∀ i, (∃ t, Fs t i) ∨ i = g → ¬ At r i := fun i hi (e : i = r) => by
        rcases hi with ⟨t, ht⟩ | hi
        · exact (hM.inn t i ht).2.2 e
        · exact hM.ne (hi.symm.trans e)
      have hM3 : DkM w3 g { D with fs := tLay (tGone D.fs a) b x } F r z (fun t => if t = b then ptr a else ptr t) (fun t => if t = b then Fs a else if t = a then fun _ => False else Fs t) := by
        refine ⟨hM.blk.kp hk23 (hng g (.inr rfl)), hM.left, ?_, fun t y hy => ?_, fun t u k htu ht hu => ?_, fun t k ht => ?_, hM.ne, hM.fg, hM.fr, fun i hi => Nat.lt_of_lt_of_le (hM.lt i hi) hk23.size⟩
        · rw [Mf_lay, Mf_gone ptr ok.srt]
          exact hm3
        · simp only [tLook_lay] at hy
          by_cases htb : t = b
          · rw [if_pos htb] at hy
            cases hy
            simp only [if_pos htb]
            exact (hM.files a _ hx).kp hk23 fun i hi => hng i (.inl ⟨a, hi⟩)
          · rw [if_neg htb, tLook_gone ok.srt] at hy
            by_cases hta : t = a
            · rw [if_pos hta] at hy; cases hy
            · rw [if_neg hta] at hy
              simp only [if_neg htb, if_neg hta]
              exact (hM.files t y hy).kp hk23 fun i hi => hng i (.inl ⟨t, hi⟩)
        · by_cases htb : t = b
          · rw [if_pos htb] at ht
            by_cases hub : u = b
            · exact htu (htb.trans hub.symm)
            · rw [if_neg hub] at hu
              by_cases hua : u = a
              · rw [if_pos hua] at hu; exact hu
              · rw [if_neg hua] at hu
                exact hM.apart a u k (fun e => hua e.symm) ht hu
          · rw [if_neg htb] at ht
            by_cases hta : t = a
            · rw [if_pos hta] at ht; exact ht
            · rw [if_neg hta] at ht
              by_cases hub : u = b
              · rw [if_pos hub] at hu
                exact hM.apart t a k hta ht hu
              · rw [if_neg hub] at hu
                by_cases hua : u = a
                · rw [if_pos hua] at hu; exact hu
                · rw [if_neg hua] at hu
                  exact hM.apart t u k htu ht hu
        · by_cases htb : t = b
          · rw [if_pos htb] at ht
            exact hM.inn a k ht
          · rw [if_neg htb] at ht
            by_cases hta : t = a
            · rw [if_pos hta] at ht; exact ht.elim
            · rw [if_neg hta] at ht
              exact hM.inn t k ht
      refine call (done_spec g _ F w3 ⟨ok.ren a b x hx (mayL_names he.symm b (by simp)), r, z, _, _, hM3⟩ hmz) ?_
      rintro v w4 ⟨rfl, hD4, hk4⟩
      simp -dsimp [go_sem]
      rw [hst]
      exact ⟨rfl, hD4, ((ka.kp F).trans hk23 fun i _ (e : i = r) => e ▸ hM.fr).trans hk4 fun i _ (e : i = g) => e ▸ hM.fg⟩
  · have h0' : ((e : Int) != 0) = true := by simp; omega
    rw [if_pos h0] at hst
    simp -dsimp [go_sem, h0']
    rw [hst]
    exact ⟨rfl, h.nw ka, ka.kp F⟩

def dTrunc (D : Dsk) (s : Nm) (n : Int) : Dsk × Nat := if mayL D [s] ≠ 0 then (D, mayL D [s]) else match tLook D.fs s with
  | none => (D, 7)
  | some x => if n < 0 ∨ (x.b.length : Int) < n then (D, 1) else (Dsk.done { D with fs := tLay D.fs s ⟨x.b.take n.toNat, min x.l n.toNat⟩ }, 0)
theorem dtrunc_spec (s : Nm) (n : Int) (g : Nat) (D : Dsk) (F : Nat → Prop) (w : World) (h : Dk w g D F) (hs : s.length ≤ 9223372036854775807) :
    Cal Tryz.prog 63 #[.pointer (some ⟨g, 0, none⟩), str s, i64 n] w fun v w' => v = i64 (dTrunc D s n).2 ∧ ∃ F', Dk w' g (dTrunc D s n).1 F' ∧ Gr F F' w w' ∧ Kp F w w' := by
  have K : KeyS Tryz.prog 9 (fun s : Nm => str s) := keyL (by kernel_rfl)
  have hmt : Tryz.prog.underlying 38 = some (.map 9 47) := by kernel_rfl
  refine enter Tryz.mixed Tryz.func63 rfl (by kernel_rfl) ?_
  simp -dsimp [go_sem]
  have ka : Nw w (w.alloc (.cells #[str s] 9)) := (Kp.refl _ _).alloc _
  refine call (may_spec [s] (some ⟨w.heap.size, 0, none⟩) 1 g D F _ (h.nw ka) (Rd.fresh rfl rfl) (by simp) (by simpa using hs)) ?_
  rintro v w1 ⟨rfl, rfl⟩
  have hst : dTrunc D s n = if mayL D [s] ≠ 0 then (D, mayL D [s]) else match tLook D.fs s with
      | none => (D, 7)
      | some x => if n < 0 ∨ (x.b.length : Int) < n then (D, 1) else (Dsk.done { D with fs := tLay D.fs s ⟨x.b.take n.toNat, min x.l n.toNat⟩ }, 0) := rfl
  have hmz := @mayL_ok D [s]
  obtain ⟨e, he⟩ : ∃ e, e = mayL D [s] := ⟨_, rfl⟩
  rw [← he] at hst hmz ⊢
  by_cases h0 : e = 0
  · subst h0
    have hmz := hmz rfl
    rw [if_neg (fun h => h rfl)] at hst
    obtain ⟨ok, r, z, ptr, Fs, hM⟩ := id (h.nw ka)
    have g1 := hM.blk.cell 1
    have hlk := lookup_mp K hmt (z := .pointer none) (w := w.alloc (.cells #[str s] 9)) rfl hM.mp s false
    have hda := h.nw ka
    generalize w.alloc (.cells #[str s] 9) = wa at *
    cases hx : tLook D.fs s with
    | none =>
      have hm1 : Mf ptr D.fs s = none := by simp [Mf, hx]
      rw [hm1] at hlk
      rw [hx] at hst
      simp -dsimp [go_sem, g1, hlk]
      rw [hst]
      exact ⟨rfl, F, hda, fun k h => .inl h, ka.kp F⟩
    | some x =>
      have hm1 : Mf ptr D.fs s = some (.pointer (some ⟨ptr s, 0, none⟩)) := by simp [Mf, hx]
      rw [hm1] at hlk
      rw [hx] at hst
      simp only at hst
      obtain ⟨u, G, hb, hBf, hnG, hin, hlt⟩ := hM.files s x hx
      obtain ⟨A, c, rfl, ho, ho1, ho2⟩ := id hBf
      have f0 := hb.cell 0
      by_cases h1 : n < 0
      · rw [if_pos (.inl h1)] at hst
        simp -dsimp [go_sem, g1, hlk, h1]
        rw [hst]
        exact ⟨rfl, F, hda, fun k h => .inl h, ka.kp F⟩
      · by_cases h2 : (x.b.length : Int) < n
        · rw [if_pos (.inr h2)] at hst
          simp -dsimp [go_sem, g1, hlk, h1, f0, h2]
          rw [hst]
          exact ⟨rfl, F, hda, fun k h => .inl h, ka.kp F⟩
        · rw [if_neg (by omega)] at hst
          obtain ⟨N, rfl⟩ : ∃ N : Nat, n = N := ⟨n.toNat, by omega⟩
          rw [Int.toNat_natCast] at hst
          have h2n : ¬ x.b.length < N := by omega
          have hNc : N ≤ c := by have := ho.2.1; omega
          have hNc' : (N : Int) ≤ (c : Int) := by omega
          have hfr0 := hb.frozen 0
          have hb1 := Blk.set0 hb 0 (.slice A N N) rfl
          have f1 := hb1.cell 1
          have hfr1 := hb1.frozen 1
          have hmin : min (x.l : Int) (N : Int) = ((min x.l N : Nat) : Int) := by omega
          obtain ⟨m, hm⟩ : ∃ m, m = min x.l N := ⟨_, rfl⟩
          rw [← hm] at hmin hst
          simp -dsimp [go_sem, g1, hlk, h1, f0, h2, h2n, hNc, hNc', hfr0, f1, hfr1, hmin]
          have hset : Kp (At (ptr s)) wa ((wa.setCell ⟨ptr s, 0, none⟩ (.slice A N N)).setCell ⟨ptr s, 1, none⟩ (i64 m)) := ((Kp.refl _ _).setCell_at _ _).setCell_at _ _
          have hB4 : Bf wa (.slice A N N) (x.b.take N) G := by
            have h1 := (ho.take (m := N) (by omega)).cap (Nat.le_refl _) hNc
            rw [Nat.mul_one, ← List.map_take] at h1
            have hl : (x.b.take N).length = N := by rw [List.length_take]; omega
            exact ⟨A, N, by rw [hl], by rw [hl]; exact h1, ho1, ho2⟩
          have hl : (x.b.take N).length = N := by rw [List.length_take]; omega
          obtain ⟨F', hD', hG', hK'⟩ := hM.reset ok hx ⟨x.b.take N, m⟩ _ G hset (Blk.set0 hb1 1 (i64 m) rfl) (hB4.kp hset fun i hi (e : i = ptr s) => hnG (e ▸ hi)) (fun k hk => hin _ (.inr hk)) hnG (by show m ≤ (x.b.take N).length; omega) (by show (x.b.take N).length ≤ x.b.length; omega)
          refine call (done_spec g _ F' _ hD' hmz) ?_
          rintro v w4 ⟨rfl, hD4, hk4⟩
          have hF'g : F' g := by
            obtain ⟨_, _, _, _, _, h⟩ := hD'
            exact h.fg
          simp -dsimp [go_sem]
          rw [hst]
          exact ⟨rfl, F', hD4, Gr.wide hG' ka.size hk4.size, ((ka.kp F).trans hK' fun _ _ h => h).trans hk4 fun i _ (e : i = g) => e ▸ hM.fg⟩
  · have h0' : ((e : Int) != 0) = true := by simp; omega
    rw [if_pos h0] at hst
    simp -dsimp [go_sem, h0']
    rw [hst]
    exact ⟨rfl, F, h.nw ka, fun k h => .inl h, ka.kp F⟩
end Go.Proofs.YthonmjgagblogaaGreat
