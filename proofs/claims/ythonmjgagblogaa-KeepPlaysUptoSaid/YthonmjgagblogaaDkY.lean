/-
  disk.Copy walked. By the session itself.
-/
import Derived.Test.YthonmjgagblogaaDkX
namespace Go.Proofs.Ythonmjgagblogaa
set_option linter.unusedSimpArgs false
set_option linter.unusedVariables false
set_option maxRecDepth 100000
set_option maxHeartbeats 1000000
open Go.Vc Go.RowKit

/-- Files that are not left any more. -/
def flt (left : Nm → Bool) (fs : List (Nm × Fil)) : List (Nm × Fil) := fs.filter fun x => !left x.1
theorem flt_look (left : Nm → Bool) : ∀ (fs : List (Nm × Fil)) (s : Nm), tLook (flt left fs) s = if left s then none else tLook fs s
  | [], s => by simp [flt, tLook]
  | p :: r, s => by
    have ih := flt_look left r s
    unfold flt at ih ⊢
    rw [List.filter_cons]
    by_cases hp : left p.1 = true
    · simp only [hp, Bool.not_true, Bool.false_eq_true, if_false, tLook]
      rw [ih]
      by_cases e : p.1 = s
      · rw [if_pos (by rw [← e]; exact hp), if_pos (by rw [← e]; exact hp)]
      · rw [if_neg e]
    · simp only [hp, Bool.not_false, if_true, tLook]
      by_cases e : p.1 = s
      · rw [if_pos e, if_pos e, if_neg (by rw [← e]; exact hp)]
      · rw [if_neg e, if_neg e, ih]
theorem flt_srt {left : Nm → Bool} {fs : List (Nm × Fil)} (h : Srt fs) : Srt (flt left fs) := List.Pairwise.filter _ h
theorem flt_sum (left : Nm → Bool) (n : Fil → Nat) (fs : List (Nm × Fil)) : sumv n (flt left fs) ≤ sumv n fs := by
  induction fs with
  | nil => exact Nat.le_refl _
  | cons p r ih =>
    unfold flt sumv at ih ⊢
    rw [List.filter_cons]
    split
    · simp only [List.map_cons, List.sum_cons]; omega
    · simp only [List.map_cons, List.sum_cons]; omega
theorem flt_len (left : Nm → Bool) (fs : List (Nm × Fil)) : (flt left fs).length ≤ fs.length := List.length_filter_le _ _
theorem flt_step {left : Nm → Bool} {fs : List (Nm × Fil)} (h : Srt fs) {a : Nm} {x : Fil} (hx : tLook fs a = some x) : tLay (flt left fs) a x = flt (fun s => left s && !decide (s = a)) fs :=
  tLook_ext ((flt_srt h).tLay a x) (flt_srt h) fun t => by
    rw [tLook_lay, flt_look, flt_look]
    by_cases e : t = a
    · subst e; simp [hx]
    · simp [e]
theorem flt_ok {D : Dsk} (ok : D.Ok) (left : Nm → Bool) : Dsk.Ok ⟨D.room, flt left D.fs, none⟩ :=
  ⟨flt_srt ok.srt, ok.room, Nat.le_trans (flt_sum left _ _) ok.used, Nat.le_trans (flt_len left _) ok.many, fun s f hf => by
    simp only [flt_look] at hf
    split at hf
    · cases hf
    · exact ok.lasts s f hf, by simp, fun s f hf => by
    simp only [flt_look] at hf
    split at hf
    · cases hf
    · exact ok.names s f hf⟩
theorem flt_none (fs : List (Nm × Fil)) : flt (fun _ => true) fs = [] := by simp [flt]
theorem flt_all {left : Nm → Bool} {fs : List (Nm × Fil)} (h : Srt fs) (hl : ∀ s, left s = true → tLook fs s = none) : flt left fs = fs :=
  tLook_ext (flt_srt h) h fun t => by
    rw [flt_look]
    split
    · rename_i e; rw [hl t e]
    · rfl
theorem dcopy_spec (g : Nat) (D : Dsk) (F : Nat → Prop) (w : World) (h : Dk w g D F) :
    Cal Try.prog 14 #[.pointer (some ⟨g, 0, none⟩)] w fun v w' => ∃ y F', v = .pointer (some ⟨y, 0, none⟩) ∧ Dk w' y ⟨D.room, D.fs, none⟩ F' ∧ Nf w F' ∧ Nw w w' := by
  obtain ⟨ok, r, z, ptr, Fs, h⟩ := h
  have h0 := h.blk.cell 0
  have h1 := h.blk.cell 1
  have K : KeyS Try.prog 9 (fun s : Nm => str s) := keyL (by kernel_rfl)
  have hmt : Try.prog.underlying 83 = some (.map 9 89) := by kernel_rfl
  have hmk := fun (t : TypeId) (w : World) => run_makeMap (P := Try.prog) t w
  refine enter Try.mixed Try.func14 rfl (by kernel_rfl) ?_
  simp -dsimp [go_sem, h0, h1, hmk]
  simp [go_sem]
  have k1 : Nw w (w.alloc (.map #[] 0)) := (Kp.refl _ _).alloc _
  have k2 := k1.alloc (.cells #[i64 D.room, .map (some w.heap.size), .bool false, i64 0] 85)
  have m1 : Mp (w.alloc (.map #[] 0)) w.heap.size (fun l : Nm => str l) (fun _ => none) := Mp.new w
  obtain ⟨r2, hr2⟩ : ∃ r2, r2 = w.heap.size := ⟨_, rfl⟩
  rw [← hr2] at k2 m1 ⊢
  have hD0 : DkM ((w.alloc (.map #[] 0)).alloc (.cells #[i64 D.room, .map (some r2), .bool false, i64 0] 85)) (r2 + 1) ⟨D.room, flt (fun _ => true) D.fs, none⟩ (fun k => r2 ≤ k ∧ k < r2 + 2) r2 0 (fun _ => 0) (fun _ _ => False) := by
    refine ⟨Blk.fresh (by simp [hr2]), by simp, ?_, fun s f hf => ?_, fun _ _ _ _ h => h.elim, fun _ _ h => h.elim, by omega, by omega, by omega, ?_⟩
    · have e : Mf (fun _ => 0) (flt (fun _ => true) D.fs) = fun _ => none := by
        funext s; simp [Mf, flt_look]
      simp only [e]
      exact m1.kp ((Kp.refl (fun _ => False) _).alloc _) fun h => h
    · simp [flt_look] at hf
    · rintro k ⟨_, h⟩
      simp [← hr2]
      omega
  have hws : ((w.alloc (.map #[] 0)).alloc (.cells #[i64 D.room, .map (some r2), .bool false, i64 0] 85)).heap.size = r2 + 2 := by simp [hr2]
  generalize (w.alloc (.map #[] 0)).alloc (.cells #[i64 D.room, .map (some r2), .bool false, i64 0] 85) = w2 at *
  have h2 := h.kp k2 fun _ _ h => h
  have h12 : w2.cell? ⟨g, 1, none⟩ = some (.map (some r)) := h2.blk.cell 1
  obtain ⟨w3, hrun, hR, hk3⟩ := range_mp hmt h2.mp
  simp -dsimp [go_sem, h12, hrun]
  obtain ⟨it, hit⟩ : ∃ it, it = w2.heap.size := ⟨_, rfl⟩
  rw [← hit] at hR ⊢
  have hFw : ∀ k, F k → k < r2 := fun k hk => by have := h.lt k hk; omega
  refine loop [4, 5, 20, 21, 22, 23, 24, 25, 26, 27, 28, 29, 30, 31, 32, 33, 34, 35, 36, 37, 38, 39, 40] (by kernel_rfl)
    (fun _ w' => Box (∃ (left : Nm → Bool) (F2 : Nat → Prop), Rg w' it r (fun s : Nm => str s) (Mf ptr D.fs) (fun s => left s = true) ∧ Dk w' (r2 + 1) ⟨D.room, flt left D.fs, none⟩ F2 ∧ (∀ k, F2 k → r2 ≤ k ∧ k ≠ it) ∧ Kp (fun k => r2 ≤ k) w w')) (fun _ w' => rgN w' it r)
    ⟨fun _ => true, _, by simpa using hR, ⟨flt_ok ok _, r2, 0, _, _, hD0.kp hk3 fun _ _ h => h⟩, fun k hk => by omega, (Nw.kp (k2.nw hk3) _)⟩ ?_
  rintro s0 w4 ⟨left, F2, hR, hD, hF2, hK⟩
  have n4 : Nw w w4 := (Kp.refl (fun _ => False) w).at_ hK fun k (hk : r2 ≤ k) => by omega
  rcases next_rg (P := Try.prog) K.inj hR 0 with ⟨hend, hnext⟩ | ⟨a, v, w5, ha, hla, hnext, hR2, hK2, hN2, hentry⟩
  · have e : flt left D.fs = D.fs := flt_all ok.srt fun s hs => by
      cases hx : tLook D.fs s with
      | none => rfl
      | some x => exact absurd hs (by have := hend s (.pointer (some ⟨ptr s, 0, none⟩)) (by simp [Mf, hx]); exact this)
    rw [e] at hD
    simp -dsimp [go_sem, hnext]
    exact ⟨F2, hD, fun k hk => by have := hF2 k hk; omega, n4⟩
  · obtain ⟨x, hx⟩ : ∃ x, tLook D.fs a = some x := by
      cases hx : tLook D.fs a with
      | none => simp [Mf, hx] at ha
      | some x => exact ⟨x, rfl⟩
    have hv : v = .pointer (some ⟨ptr a, 0, none⟩) := by
      simp [Mf, hx] at ha
      exact ha.symm
    subst hv
    have hits := hR.lt
    have n5 : Nw w w5 := n4.at_ hK2 fun k (e : k = it) => by have := k2.size; omega
    have h5 := h.kp n5 fun _ _ h => h
    have hD5 := hD.kp hK2 fun i hi (e : i = it) => (hF2 i hi).2 e
    obtain ⟨u, G, hb, hBf, hnG, hin, hlt⟩ := h5.files a x hx
    obtain ⟨A, c, rfl, ho, ho1, ho2⟩ := id hBf
    obtain ⟨ok5, r5, z5, ptr5, Fs5, hM5⟩ := id hD5
    have hxu : x.b.length ≤ D.used := sumv_ge (fun f : Fil => f.b.length) hx
    have hu1 := ok.used
    have hu2 := ok.room
    have y1 : w5.cell? ⟨r2 + 1, 1, none⟩ = some (.map (some r5)) := hM5.blk.cell 1
    have f0 : w5.cell? ⟨ptr a, 0, none⟩ = some (.slice A x.b.length c) := hb.cell 0
    have f1 : w5.cell? ⟨ptr a, 1, none⟩ = some (i64 x.l) := hb.cell 1
    have kd : Nw w5 w5.drew := (Kp.refl _ _).drew
    have y1d := kd.cell_some y1 fun h => h
    have f0d := kd.cell_some f0 fun h => h
    have f1d := kd.cell_some f1 fun h => h
    simp -dsimp [go_sem, hnext, hentry]
    refine drawD (.take 0 (.take 1 (.take 2 (.take 3 (.take 4 (.take 5 (.take 6 (.take 7 (.take 8 (.take 10 (.take 11 (.take 12 (.take 13 (.alt 9 (.alt 14 (.alt 15 (.alt 16 .done .stop) .stop) .stop) .stop)))))))))))))) 16 (by kernel_rfl) (fun wz => Nw w5 wz) kd ?_
    simp -dsimp [go_sem, y1d, f0d, f1d]
    refine ⟨fun wz hz => by simp [hz.cell_some y1 fun h => h], fun wz hz => by simp [hz.cell_some f0 fun h => h], fun wz hz => by simp [hz.cell_some f1 fun h => h], ?_⟩
    refine call (clone_spec A c x.b w5.drew (ho.nw kd).rd (by omega)) ?_
    rintro v6 w6 ⟨hB6, hk6⟩
    have n6 := kd.nw hk6
    refine ⟨.inr n6, ?_⟩
    obtain ⟨A6, c6, rfl, ho6, hA6⟩ := id hB6
    simp -dsimp [go_sem]
    simp [go_sem]
    have kp6 : Nw w6 (w6.alloc (.cells #[.slice A6 x.b.length c6, i64 x.l] 92)) := (Kp.refl _ _).alloc _
    have hp0 := Blk.new w6 92 #[.slice A6 x.b.length c6, i64 x.l]
    obtain ⟨p, hp⟩ : ∃ p, p = w6.heap.size := ⟨_, rfl⟩
    rw [← hp] at hp0 ⊢
    have n7 := n6.nw kp6
    have ho7 := ho6.nw kp6
    have hps : (w6.alloc (.cells #[.slice A6 x.b.length c6, i64 x.l] 92)).heap.size = p + 1 := by simp [hp]
    generalize w6.alloc (.cells #[.slice A6 x.b.length c6, i64 x.l] 92) = w7 at *
    have hM7 := hM5.kp n7 fun _ _ h => h
    obtain ⟨w8, hup, hM8, hk8⟩ := update_mp K hmt hM7.mp a (.pointer (some ⟨p, 0, none⟩))
    have hr5 := hM5.lt r5 hM5.fr
    have h56 := n6.size
    have hpr : p ≠ r5 := by omega
    have hA6' : ∀ k, blk A6 k → w5.heap.size ≤ k ∧ k < p := fun k hk => by
      obtain ⟨aa, haa, rfl⟩ := blk_of hk
      have h1 := hA6 aa haa
      have h2 := ho6.lt aa haa
      have h3 := kd.size
      exact ⟨by omega, by omega⟩
    have hfile : FileAt w8 p ⟨x.b, x.l⟩ (fun k => k = p ∨ blk A6 k) := by
      refine ⟨_, blk A6, hp0.kp hk8 hpr, ⟨A6, c6, rfl, ho7.kp hk8 (Off.of_blk fun k hk (e : k = r5) => by have := hA6' k hk; omega), fun k hk => hk, fun k hk => ?_⟩, fun hk => ?_, fun k hk => hk, fun k hk => ?_⟩
      · have := hA6' k hk; have := hk8.size; omega
      · have := hA6' p hk; omega
      · have := hk8.size
        rcases hk with rfl | hk
        · omega
        · have := hA6' k hk; omega
    have hlayk := flt_step (left := left) ok.srt hx
    have hnl : tLook (flt left D.fs) a = none := by rw [flt_look, if_pos hla]
    have ht := Dk.turned ok5 hM5 a ⟨x.b, x.l⟩ p (fun k => k = p ∨ blk A6 k) ((Nw.kp n7 _).trans hk8 fun k _ (e : k = r5) => .inr e) hM8 hfile (fun k hk => .inr (by
        have := hk8.size
        rcases hk with rfl | hk
        · exact ⟨by omega, by omega⟩
        · have := hA6' k hk; exact ⟨by omega, by omega⟩)) (ok.lasts a x hx) (by
      have h1 := flt_sum (fun s => left s && !decide (s = a)) (fun f : Fil => f.b.length) D.fs
      rw [← hlayk] at h1
      have h2 := sumv_lay (flt_srt (left := left) ok.srt) (fun f : Fil => f.b.length) a x
      rw [hnl] at h2
      simp only [Option.map_none, Option.getD_none] at h2
      have h3 : D.used = sumv (fun f : Fil => f.b.length) D.fs := rfl
      show sumv (fun f : Fil => f.b.length) (flt left D.fs) + x.b.length ≤ D.room + _
      omega) (fun _ => by
      have h1 := flt_len (fun s => left s && !decide (s = a)) D.fs
      rw [← hlayk, lay_len (flt_srt (left := left) ok.srt), hnl] at h1
      have h2 := ok.many
      simp at h1
      show (flt left D.fs).length < 4096
      omega) (ok.names a x hx)
    obtain ⟨hD8, hG8, hK8⟩ := ht
    simp only at hD8
    rw [show (⟨x.b, x.l⟩ : Fil) = x from rfl, hlayk] at hD8
    simp -dsimp [go_sem, hup]
    have hF58 : ∀ k, F2 k → k ≠ it := fun k hk => (hF2 k hk).2
    have hit5 : it < w5.heap.size := hR2.lt
    have hr5F : F2 r5 := hM5.fr
    have hr5b := hF2 r5 hr5F
    have hk58 : Kp (fun k => k = r5) w5 w8 := (Nw.kp n7 _).trans hk8 fun _ _ h => h
    have hrr : r ≠ r5 := by have := hFw r h.fr; omega
    obtain ⟨hR8, hN8⟩ := hR2.kp hk58 (fun e : it = r5 => hr5b.2 e.symm) (fun e : r = r5 => hrr e)
    refine ⟨n6, n7, ⟨fun s => left s && !decide (s = a), _, by simpa using hR8, hD8, fun k hk => ?_, (hK.trans hK2 fun k _ (e : k = it) => by have := k2.size; show r2 ≤ k; omega).trans hk58 fun k _ (e : k = r5) => by show r2 ≤ k; omega⟩, by rw [hN8]; exact hN2⟩
    rcases hk with hk | rfl | hk
    · exact hF2 k hk
    · exact ⟨by have := n5.size; omega, by omega⟩
    · have h1 := hA6' k hk
      have := n5.size
      exact ⟨by omega, by omega⟩
end Go.Proofs.Ythonmjgagblogaa
