/-
  disk.New, Append walked. By the session itself.
-/
import Derived.Test.YthonmjgagblogaaGreatDkA
namespace Go.Proofs.YthonmjgagblogaaGreat
set_option linter.unusedSimpArgs false
set_option linter.unusedVariables false
set_option maxRecDepth 100000
set_option maxHeartbeats 1000000
open Go.Vc Go.RowKit

theorem new_spec (n : Int) (w : World) : Cal Tryz.prog 4 #[i64 n] w fun v w' =>
    ((n < 0 ∨ 1073741824 < n) ∧ v = .tuple #[.pointer none, i64 1] ∧ w' = w) ∨ (0 ≤ n ∧ n ≤ 1073741824 ∧ ∃ g F, v = .tuple #[.pointer (some ⟨g, 0, none⟩), i64 0] ∧ Dk w' g ⟨n.toNat, [], none⟩ F ∧ Nf w F ∧ Nw w w') := by
  refine enter Tryz.mixed Tryz.func4 rfl (by kernel_rfl) ?_
  by_cases h0 : n < 0
  · simp -dsimp [go_sem, h0]
  · by_cases h1 : 1073741824 < n
    · simp -dsimp [go_sem, h0, h1]
    · have hmk := fun (t : TypeId) (w : World) => run_makeMap (P := Tryz.prog) t w
      simp -dsimp [go_sem, h0, h1, hmk]
      simp [go_sem]
      have k1 : Nw w (w.alloc (.map #[] 0)) := (Kp.refl _ _).alloc _
      have k2 := k1.alloc (.cells #[i64 n, .map (some w.heap.size), .bool false, i64 0] 40)
      have m1 : Mp (w.alloc (.map #[] 0)) w.heap.size (fun l : Nm => str l) (fun _ => none) := Mp.new w
      have hn : i64 n = i64 (n.toNat : Nat) := by congr 1; omega
      rw [hn] at k2 ⊢
      refine ⟨by omega, by omega, fun k => w.heap.size ≤ k ∧ k < w.heap.size + 2, ⟨⟨Srt.nil, by simp; omega, by simp [Dsk.used, sumv], by simp, by simp [tLook], by simp, by simp [tLook]⟩, w.heap.size, 0, fun _ => 0, fun _ _ => False, ?_⟩, fun i h => h.1, k2⟩
      refine ⟨Blk.fresh (by simp), by simp, ?_, by simp [tLook], fun _ _ _ _ h => h.elim, fun _ _ h => h.elim, by omega, by omega, by omega, ?_⟩
      · exact m1.kp ((Kp.refl (fun _ => False) _).alloc _) fun h => h
      · rintro k ⟨_, h⟩
        simp
        omega

/-- A file that is nothing yet. -/
def Fil.none : Fil := ⟨[], 0⟩
def dAppend (D : Dsk) (s : Nm) (b : List UInt8) : Dsk × Nat :=
  if mayL D [s] ≠ 0 then (D, mayL D [s])
  else if D.room < D.used + b.length ∨ (tLook D.fs s = .none ∧ 4096 ≤ D.fs.length) then (D, 6)
  else (Dsk.done { D with fs := tLay D.fs s ⟨((tLook D.fs s).getD .none).b ++ b, ((tLook D.fs s).getD .none).l⟩ }, 0)

theorem mayL_names {D : Dsk} {ns : List Nm} (h : mayL D ns = 0) : ∀ s ∈ ns, s.length ≤ 64 := fun s hs => by
  unfold mayL at h
  split at h
  · cases h
  · split at h
    · cases h
    · rename_i h1 h2
      have h2 : ns.any badN = false := by simpa using h2
      have := List.any_eq_false.1 h2 s hs
      simp [badN] at this
      omega
theorem put_self {α : Type} [DecidableEq α] {m : α → Option Value} {a : α} {v : Value} (h : m a = some v) : put m a v = m := by
  funext x
  unfold put
  split
  · rename_i e; rw [e, h]
  · rfl
theorem Mf_lay (ptr : Nm → Nat) (fs : List (Nm × Fil)) (s : Nm) (f : Fil) (p : Nat) : Mf (fun t => if t = s then p else ptr t) (tLay fs s f) = put (Mf ptr fs) s (.pointer (some ⟨p, 0, none⟩)) := by
  funext t
  simp only [Mf, put, tLook_lay]
  split
  · simp
  · rfl
/-- A file has turned, or is new. -/
theorem DkM.turn {w w' : World} {g : Nat} {D : Dsk} {F : Nat → Prop} {r : Nat} {z : Int} {ptr : Nm → Nat} {Fs : Nm → Nat → Prop} (h : DkM w g D F r z ptr Fs) (s : Nm) (f : Fil) (p : Nat) (F' : Nat → Prop)
    (hk : Kp (fun k => Fs s k ∨ k = r) w w') (hm : Mp w' r (fun l : Nm => str l) (put (Mf ptr D.fs) s (.pointer (some ⟨p, 0, none⟩)))) (hf : FileAt w' p f F') (hG : Gr (Fs s) F' w w') :
    DkM w' g { D with fs := tLay D.fs s f } (fun k => F k ∨ F' k) r z (fun t => if t = s then p else ptr t) (fun t => if t = s then F' else Fs t) := by
  have hgs : ¬ (Fs s g ∨ g = r) := fun e => e.elim (fun e => (h.inn s g e).2.1 rfl) h.ne
  have hnew : ∀ k, F' k → Fs s k ∨ w.heap.size ≤ k := fun k hk => (hG k hk).imp id And.left
  have hgl := h.lt g h.fg
  have hrl := h.lt r h.fr
  have hF' : ∀ k, F' k → k < w'.heap.size := by
    obtain ⟨_, _, _, _, _, _, h⟩ := hf
    exact h
  have hFs : ∀ t k, Fs t k → k < w.heap.size := fun t k hk => h.lt k (h.inn t k hk).1
  refine ⟨h.blk.kp hk hgs, h.left, by rw [Mf_lay]; exact hm, fun t x hx => ?_, fun t u k htu ht hu => ?_, fun t k ht => ?_, h.ne, .inl h.fg, .inl h.fr, fun k hk' => ?_⟩
  · simp only [tLook_lay] at hx
    by_cases hts : t = s
    · rw [if_pos hts] at hx
      cases hx
      simp only [hts, if_true]
      exact hf
    · rw [if_neg hts] at hx
      simp only [if_neg hts]
      refine (h.files t x hx).kp hk fun i hi e => ?_
      rcases e with e | e
      · exact h.apart t s i hts hi e
      · exact (h.inn t i hi).2.2 e
  · by_cases hts : t = s
    · by_cases hus : u = s
      · exact htu (hts.trans hus.symm)
      · rw [if_pos hts] at ht
        rw [if_neg hus] at hu
        rcases hnew k ht with e | e
        · exact h.apart s u k (fun e => hus e.symm) e hu
        · have := hFs u k hu; omega
    · rw [if_neg hts] at ht
      by_cases hus : u = s
      · rw [if_pos hus] at hu
        rcases hnew k hu with e | e
        · exact h.apart t s k hts ht e
        · have := hFs t k ht; omega
      · rw [if_neg hus] at hu
        exact h.apart t u k htu ht hu
  · by_cases hts : t = s
    · rw [if_pos hts] at ht
      rcases hnew k ht with e | e
      · exact ⟨.inl (h.inn s k e).1, (h.inn s k e).2⟩
      · exact ⟨.inr ht, by omega, by omega⟩
    · rw [if_neg hts] at ht
      exact ⟨.inl (h.inn t k ht).1, (h.inn t k ht).2⟩
  · rcases hk' with e | e
    · exact Nat.lt_of_lt_of_le (h.lt k e) hk.size
    · exact hF' k e
theorem DkM.kpF {w w' : World} {g : Nat} {D : Dsk} {F : Nat → Prop} {r : Nat} {z : Int} {ptr : Nm → Nat} {Fs : Nm → Nat → Prop} (h : DkM w g D F r z ptr Fs) {s : Nm} (hk : Kp (fun k => Fs s k ∨ k = r) w w') : Kp F w w' :=
  hk.mono fun i _ e => e.elim (fun e => (h.inn s i e).1) fun e => e ▸ h.fr
theorem DkM.gr {w w' : World} {g : Nat} {D : Dsk} {F : Nat → Prop} {r : Nat} {z : Int} {ptr : Nm → Nat} {Fs : Nm → Nat → Prop} (h : DkM w g D F r z ptr Fs) {s : Nm} {F' : Nat → Prop} (hG : Gr (Fs s) F' w w') : Gr F (fun k => F k ∨ F' k) w w' := fun k hk => by
  rcases hk with e | e
  · exact .inl e
  · rcases hG k e with e | e
    · exact .inl (h.inn s k e).1
    · exact .inr e
theorem Dsk.Ok.lay {D : Dsk} (h : D.Ok) (s : Nm) (f : Fil) (hf : f.l ≤ f.b.length) (hu : D.used + f.b.length ≤ D.room + ((tLook D.fs s).getD .none).b.length) (hm : tLook D.fs s = .none → D.fs.length < 4096) (hn : s.length ≤ 64) : Dsk.Ok { D with fs := tLay D.fs s f } := by
  have hs := sumv_lay h.srt (fun f : Fil => f.b.length) s f
  have hl := lay_len h.srt s f
  have e : ((tLook D.fs s).map fun f : Fil => f.b.length).getD 0 = ((tLook D.fs s).getD .none).b.length := by cases tLook D.fs s <;> rfl
  rw [e] at hs
  have hu' : D.used = sumv (fun f : Fil => f.b.length) D.fs := rfl
  have hmany := h.many
  refine ⟨h.srt.tLay s f, h.room, by unfold Dsk.used; simp only; omega, ?_, fun t x hx => ?_, h.left, fun t x hx => ?_⟩
  · simp only
    rw [hl]
    split
    · exact hmany
    · rename_i hn
      have := hm (by cases hx : tLook D.fs s with | none => rfl | some x => rw [hx] at hn; exact absurd rfl hn)
      omega
  · simp only [tLook_lay] at hx
    split at hx
    · cases hx; exact hf
    · exact h.lasts t x hx
  · simp only [tLook_lay] at hx
    split at hx
    · rename_i e; rw [e]; exact hn
    · exact h.names t x hx
theorem Gr.wide {F F' : Nat → Prop} {a b w w' : World} (h : Gr F F' a b) (h1 : w.heap.size ≤ a.heap.size) (h2 : b.heap.size ≤ w'.heap.size) : Gr F F' w w' := fun k hk => (h k hk).imp id fun ⟨x, y⟩ => ⟨by omega, by omega⟩
theorem Dk.turned {w w' : World} {g : Nat} {D : Dsk} {F : Nat → Prop} {r : Nat} {z : Int} {ptr : Nm → Nat} {Fs : Nm → Nat → Prop} (ok : D.Ok) (h : DkM w g D F r z ptr Fs) (s : Nm) (f : Fil) (p : Nat) (F' : Nat → Prop)
    (hk : Kp (fun k => Fs s k ∨ k = r) w w') (hm : Mp w' r (fun l : Nm => str l) (put (Mf ptr D.fs) s (.pointer (some ⟨p, 0, none⟩)))) (hf : FileAt w' p f F') (hG : Gr (Fs s) F' w w')
    (h1 : f.l ≤ f.b.length) (hu : D.used + f.b.length ≤ D.room + ((tLook D.fs s).getD .none).b.length) (hmany : tLook D.fs s = .none → D.fs.length < 4096) (hn : s.length ≤ 64) :
    Dk w' g { D with fs := tLay D.fs s f } (fun k => F k ∨ F' k) ∧ Gr F (fun k => F k ∨ F' k) w w' ∧ Kp F w w' :=
  ⟨⟨ok.lay s f h1 hu hmany hn, r, z, _, _, h.turn s f p F' hk hm hf hG⟩, h.gr hG, h.kpF hk⟩
end Go.Proofs.YthonmjgagblogaaGreat
