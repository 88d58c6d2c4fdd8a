/-
  The reference's keep: Load, has, Whole, Save walked; a disk stays in order. By the session itself.
-/
import Derived.Test.YthonmjgagblogaaGreatDkUm
import Derived.Test.YthonmjgagblogaaGreatKpB
import Derived.Test.YthonmjgagblogaaGreatFrmE
namespace Go.Proofs.YthonmjgagblogaaGreat
set_option linter.unusedSimpArgs false
set_option linter.unusedVariables false
set_option maxRecDepth 100000
set_option maxHeartbeats 1000000
open Go.Vc Go.RowKit

theorem dAppend_ok {D : Dsk} (h : D.Ok) (s : Nm) (b : List UInt8) : (dAppend D s b).1.Ok := by
  unfold dAppend
  split
  · exact h
  · rename_i h1
    split
    · exact h
    · rename_i h2
      have hs := mayL_names (by simpa using h1) s (by simp)
      have e : ((tLook D.fs s).getD .none).l ≤ ((tLook D.fs s).getD .none).b.length := by
        cases hx : tLook D.fs s with
        | none => simp [Fil.none]
        | some x => exact h.lasts s x hx
      exact (h.lay s ⟨((tLook D.fs s).getD .none).b ++ b, ((tLook D.fs s).getD .none).l⟩ (by simp only [List.length_append]; omega) (by simp only [List.length_append]; omega) (fun hn => Nat.lt_of_not_le fun e => h2 (.inr ⟨hn, e⟩)) hs).done
theorem dStep_ok {D : Dsk} (h : D.Ok) (f : Dsk → Nm → Fil → Dsk) (hf : ∀ s x, tLook D.fs s = some x → (f D s x).Ok) (s : Nm) : (dStep f D s).1.Ok := by
  unfold dStep
  split
  · exact h
  · split
    · exact h
    · rename_i x hx
      exact (hf s x hx).done
theorem dSync_ok {D : Dsk} (h : D.Ok) (s : Nm) : (dStep fSync D s).1.Ok := dStep_ok h _ (fun s x hx => h.lay s ⟨x.b, x.b.length⟩ (Nat.le_refl _) (by rw [hx]; simp only [Option.getD_some]; have := h.used; omega) (fun e => by rw [hx] at e; cases e) (h.names s x hx)) s
theorem dRemove_ok {D : Dsk} (h : D.Ok) (s : Nm) : (dStep fRemove D s).1.Ok := dStep_ok h _ (fun s x hx => h.rem s) s
theorem tLook_pos {l : List (Nm × Fil)} {s : Nm} {x : Fil} (h : tLook l s = some x) : 0 < l.length := by
  cases l with
  | nil => cases h
  | cons a r => simp
theorem dRename_ok {D : Dsk} (h : D.Ok) (a b : Nm) : (dRename D a b).1.Ok := by
  unfold dRename
  split
  · exact h
  · rename_i h1
    split
    · exact h
    · rename_i x hx
      have hs := mayL_names (by simpa using h1) b (by simp)
      have hg := sumv_gone D.fs (fun f : Fil => f.b.length) a
      rw [hx] at hg
      simp only [Option.map_some, Option.getD_some] at hg
      have hu : Dsk.used D = sumv (fun f : Fil => f.b.length) D.fs := rfl
      have hgu : Dsk.used { D with fs := tGone D.fs a } = sumv (fun f : Fil => f.b.length) (tGone D.fs a) := rfl
      have hus := h.used
      have hm := h.many
      have hgl := gone_len D.fs a
      have hpos := tLook_pos hx
      exact ((h.rem a).lay b x (h.lasts a x hx) (by simp only; rw [hgu]; omega) (fun _ => by simp only; rw [hgl, if_pos (by rw [hx]; rfl)]; omega) hs).done
theorem rkload_spec (s : Nm) (x : Nat) (D : Dsk) (F : Nat → Prop) (w : World) (h : RefD w x D F) (ok : D.Ok) :
    Cal Tryz.prog 66 #[.pointer (some ⟨x, 0, none⟩), str s] w fun v w' => Nw w w' ∧ ∃ u, v = .tuple #[u, i64 (kLoad D s).2] ∧ Bs w' u (kLoad D s).1 w.heap.size := by
  have hlen := dRead_len ok s
  have e0 : kLoad D s = if (dRead D s).2 ≠ 0 then ([], (dRead D s).2) else if (oneL (dRead D s).1).2 ≠ 0 then ([], 3) else ((oneL (dRead D s).1).1, 0) := rfl
  have e7 : (dRead D s).2 = 0 ∨ (dRead D s).2 = 7 := by unfold dRead; split <;> simp
  refine enter Tryz.mixed Tryz.func66 rfl (by kernel_rfl) ?_
  simp -dsimp [go_sem]
  refine call (rread_spec s x D F w h ok) ?_
  rintro v w1 ⟨hk1, u, rfl, hB⟩
  obtain ⟨R, hR⟩ : ∃ R, R = dRead D s := ⟨_, rfl⟩
  rw [← hR] at hlen e0 e7 hB ⊢
  obtain ⟨b, e⟩ := R
  simp only at hlen e0 e7 hB ⊢
  obtain ⟨X, c, rfl, hoX, hX⟩ := id hB
  rcases e7 with rfl | rfl
  · rw [if_neg (fun h => h rfl)] at e0
    simp -dsimp [go_sem]
    refine call (refOne_spec b X c w1 hoX.rd hoX.2.1 (by omega)) ?_
    rintro v w2 ⟨hk2, u, rfl, hB2⟩
    obtain ⟨R, hR⟩ : ∃ R, R = oneL b := ⟨_, rfl⟩
    rw [← hR] at e0 hB2 ⊢
    obtain ⟨q, e⟩ := R
    simp only at e0 hB2 ⊢
    by_cases h0 : e = 0
    · subst h0
      rw [if_neg (fun h => h rfl)] at e0
      rw [e0]
      simp -dsimp [go_sem]
      exact ⟨hk1.nw hk2, hB2.mono hk1.size⟩
    · rw [if_pos h0] at e0
      rw [e0]
      have h0' : ((e : Int) != 0) = true := by simp; omega
      simp -dsimp [go_sem, h0', h0]
      exact ⟨hk1.nw hk2, Bs.nil _ _⟩
  · rw [if_pos (by decide)] at e0
    rw [e0]
    simp -dsimp [go_sem]
    exact ⟨hk1, Bs.nil _ _⟩
end Go.Proofs.YthonmjgagblogaaGreat
