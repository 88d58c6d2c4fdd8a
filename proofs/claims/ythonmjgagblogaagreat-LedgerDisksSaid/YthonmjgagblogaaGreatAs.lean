/-
  Tables by rising names: plain laws, no program in sight. By the session itself.
-/
import Derived.Test.YthonmjgagblogaaGreatHp
namespace Go.Vc
set_option linter.unusedSimpArgs false
set_option linter.unusedVariables false

/-- A name; a text's value. -/
abbrev Nm := List UInt8
abbrev str (l : List UInt8) : Value := .string ⟨l.toArray⟩
theorem nm_lt_irrefl (a : Nm) : ¬ a < a := List.lt_irrefl a
theorem nm_lt_trans {a b c : Nm} (h : a < b) (k : b < c) : a < c := List.lt_trans h k
theorem nm_tri (a b : Nm) : a < b ∨ a = b ∨ b < a := by
  by_cases h1 : a < b
  · exact .inl h1
  · by_cases h2 : b < a
    · exact .inr (.inr h2)
    · exact .inr (.inl (List.le_antisymm h2 h1))
theorem nm_ne {a b : Nm} (h : a < b) : a ≠ b := fun e => nm_lt_irrefl b (e ▸ h)

variable {β γ : Type}
/-- What stands under a name. -/
def tLook : List (Nm × β) → Nm → Option β
  | [], _ => none
  | (k, f) :: r, s => if k = s then some f else tLook r s
/-- One more, or another one under its name. -/
def tLay : List (Nm × β) → Nm → β → List (Nm × β)
  | [], s, f => [(s, f)]
  | (k, g) :: r, s, f => if k < s then (k, g) :: tLay r s f else if k = s then (s, f) :: r else (s, f) :: (k, g) :: r
/-- One less. -/
def tGone : List (Nm × β) → Nm → List (Nm × β)
  | [], _ => []
  | (k, g) :: r, s => if k = s then r else (k, g) :: tGone r s
def Srt (l : List (Nm × β)) : Prop := l.Pairwise fun x y => x.1 < y.1
theorem Srt.nil : Srt ([] : List (Nm × β)) := List.Pairwise.nil
theorem Srt.tail {x : Nm × β} {l : List (Nm × β)} (h : Srt (x :: l)) : Srt l := (List.pairwise_cons.1 h).2
theorem Srt.head {x : Nm × β} {l : List (Nm × β)} (h : Srt (x :: l)) : ∀ y ∈ l, x.1 < y.1 := (List.pairwise_cons.1 h).1

theorem tLook_lay (l : List (Nm × β)) (s : Nm) (f : β) (t : Nm) : tLook (tLay l s f) t = if t = s then some f else tLook l t := by
  induction l with
  | nil => simp [tLay, tLook, eq_comm]
  | cons x l ih =>
    obtain ⟨k, g⟩ := x
    simp only [tLay]
    split
    · rename_i h
      simp only [tLook, ih]
      by_cases hk : k = t
      · subst hk
        rw [if_pos rfl, if_neg (nm_ne h), if_pos rfl]
      · rw [if_neg hk, if_neg hk]
    · split
      · rename_i h
        subst h
        simp only [tLook]
        by_cases hk : k = t
        · subst hk; simp
        · rw [if_neg hk, if_neg hk, if_neg (fun e => hk e.symm)]
      · rename_i h1 h2
        simp only [tLook]
        by_cases hs : s = t
        · subst hs; simp
        · have hs' : ¬ t = s := fun e => hs e.symm
          rw [if_neg hs, if_neg hs']
theorem mem_lay {l : List (Nm × β)} {s : Nm} {f : β} {x : Nm × β} (h : x ∈ tLay l s f) : x = (s, f) ∨ x ∈ l := by
  induction l with
  | nil => simp [tLay] at h; exact .inl h
  | cons y l ih =>
    obtain ⟨k, g⟩ := y
    simp only [tLay] at h
    split at h
    · rcases List.mem_cons.1 h with rfl | h
      · exact .inr (by simp)
      · rcases ih h with h | h
        · exact .inl h
        · exact .inr (by simp [h])
    · split at h
      · rcases List.mem_cons.1 h with rfl | h
        · exact .inl rfl
        · exact .inr (by simp [h])
      · rcases List.mem_cons.1 h with rfl | h
        · exact .inl rfl
        · exact .inr h
theorem mem_gone {l : List (Nm × β)} {s : Nm} {x : Nm × β} (h : x ∈ tGone l s) : x ∈ l := by
  induction l with
  | nil => simp [tGone] at h
  | cons y l ih =>
    obtain ⟨k, g⟩ := y
    simp only [tGone] at h
    split at h
    · simp [h]
    · rcases List.mem_cons.1 h with rfl | h
      · simp
      · simp [ih h]
theorem Srt.tLay {l : List (Nm × β)} (h : Srt l) (s : Nm) (f : β) : Srt (tLay l s f) := by
  induction l with
  | nil => exact List.pairwise_singleton _ _
  | cons x l ih =>
    obtain ⟨k, g⟩ := x
    simp only [Vc.tLay]
    split
    · rename_i hk
      refine List.pairwise_cons.2 ⟨fun y hy => ?_, ih h.tail⟩
      rcases mem_lay hy with rfl | hy
      · exact hk
      · exact h.head y hy
    · split
      · rename_i hk
        subst hk
        exact List.pairwise_cons.2 ⟨h.head, h.tail⟩
      · rename_i h1 h2
        have hlt : s < k := by
          rcases nm_tri k s with h' | h' | h'
          · exact absurd h' h1
          · exact absurd h' h2
          · exact h'
        refine List.pairwise_cons.2 ⟨fun y hy => ?_, h⟩
        rcases List.mem_cons.1 hy with rfl | hy
        · exact hlt
        · exact nm_lt_trans hlt (h.head y hy)
theorem Srt.tGone {l : List (Nm × β)} (h : Srt l) (s : Nm) : Srt (tGone l s) := by
  induction l with
  | nil => exact h
  | cons x l ih =>
    obtain ⟨k, g⟩ := x
    simp only [Vc.tGone]
    split
    · exact h.tail
    · exact List.pairwise_cons.2 ⟨fun y hy => h.head y (mem_gone hy), ih h.tail⟩
theorem tLook_none {l : List (Nm × β)} {s : Nm} (h : ∀ x ∈ l, x.1 ≠ s) : tLook l s = none := by
  induction l with
  | nil => rfl
  | cons x l ih =>
    obtain ⟨k, g⟩ := x
    simp only [tLook]
    rw [if_neg (h (k, g) (by simp))]
    exact ih fun y hy => h y (by simp [hy])
theorem tLook_some {l : List (Nm × β)} {s : Nm} {f : β} (h : tLook l s = some f) : (s, f) ∈ l := by
  induction l with
  | nil => cases h
  | cons x l ih =>
    obtain ⟨k, g⟩ := x
    simp only [tLook] at h
    split at h
    · rename_i hk
      subst hk
      cases h
      simp
    · simp [ih h]
theorem tLook_mem {l : List (Nm × β)} (hl : Srt l) {s : Nm} {f : β} : tLook l s = some f ↔ (s, f) ∈ l := by
  refine ⟨tLook_some, fun h => ?_⟩
  induction l with
  | nil => cases h
  | cons x l ih =>
    obtain ⟨k, g⟩ := x
    simp only [tLook]
    rcases List.mem_cons.1 h with e | h
    · cases e; simp
    · rw [if_neg (nm_ne (hl.head _ h))]
      exact ih hl.tail h
theorem tLook_gone {l : List (Nm × β)} (hl : Srt l) (s t : Nm) : tLook (tGone l s) t = if t = s then none else tLook l t := by
  induction l with
  | nil => simp [tGone, tLook]
  | cons x l ih =>
    obtain ⟨k, g⟩ := x
    simp only [tGone]
    split
    · rename_i hk
      subst hk
      by_cases ht : t = k
      · subst ht
        rw [if_pos rfl]
        exact tLook_none fun y hy e => nm_ne (hl.head y hy) e.symm
      · rw [if_neg ht]
        simp only [tLook]
        rw [if_neg (fun e => ht e.symm)]
    · rename_i hk
      simp only [tLook]
      by_cases ht : k = t
      · subst ht
        rw [if_pos rfl, if_pos rfl, if_neg hk]
      · rw [if_neg ht, if_neg ht]
        exact ih hl.tail
theorem tLook_ext {l m : List (Nm × β)} (hl : Srt l) (hm : Srt m) (h : ∀ s, tLook l s = tLook m s) : l = m := by
  have hmem : ∀ x, x ∈ l ↔ x ∈ m := fun ⟨s, f⟩ => by rw [← tLook_mem hl, ← tLook_mem hm, h]
  have ndl : Srt l := hl
  have ndm : Srt m := hm
  have nd : ∀ {l : List (Nm × β)}, Srt l → l.Nodup := by
    intro l h
    unfold Srt at h
    exact h.imp fun {a b} h e => nm_ne h (congrArg Prod.fst e)
  unfold Srt at hl hm
  have hp : l.Perm m := (List.perm_ext_iff_of_nodup (nd ndl) (nd ndm)).2 hmem
  refine hp.eq_of_pairwise (le := fun x y => x.1 < y.1) ?_ hl hm
  intro a b _ _ h1 h2
  exact absurd (nm_lt_trans h1 h2) (nm_lt_irrefl _)
theorem gone_none {l : List (Nm × β)} {s : Nm} (h : tLook l s = none) : tGone l s = l := by
  induction l with
  | nil => rfl
  | cons x l ih =>
    obtain ⟨k, g⟩ := x
    simp only [tLook] at h
    split at h
    · cases h
    · rename_i hk
      simp only [tGone]
      rw [if_neg hk, ih h]
theorem lay_len {l : List (Nm × β)} (hl : Srt l) (s : Nm) (f : β) : (tLay l s f).length = if (tLook l s).isSome then l.length else l.length + 1 := by
  induction l with
  | nil => rfl
  | cons x l ih =>
    obtain ⟨k, g⟩ := x
    simp only [tLay, tLook]
    split
    · rename_i hk
      have hk' : ¬ k = s := nm_ne hk
      simp only [if_neg hk', List.length_cons, ih hl.tail]
      split <;> rfl
    · split
      · rfl
      · rename_i h1 h2
        have hlt : s < k := by
          rcases nm_tri k s with h' | h' | h'
          · exact absurd h' h1
          · exact absurd h' h2
          · exact h'
        rw [tLook_none fun y hy e => nm_ne (nm_lt_trans hlt (hl.head y hy)) e.symm]
        rfl
theorem gone_len (l : List (Nm × β)) (s : Nm) : (tGone l s).length = if (tLook l s).isSome then l.length - 1 else l.length := by
  induction l with
  | nil => rfl
  | cons x l ih =>
    obtain ⟨k, g⟩ := x
    simp only [tGone, tLook]
    split
    · simp
    · rw [List.length_cons, ih]
      cases hl : tLook l s with
      | none => simp
      | some f =>
        have := List.length_pos_of_mem (tLook_some hl)
        simp
        omega
/-- All values turned. -/
def mapv (g : β → γ) (l : List (Nm × β)) : List (Nm × γ) := l.map fun x => (x.1, g x.2)
theorem tLook_mapv (g : β → γ) (l : List (Nm × β)) (s : Nm) : tLook (mapv g l) s = (tLook l s).map g := by
  induction l with
  | nil => rfl
  | cons x l ih =>
    obtain ⟨k, f⟩ := x
    simp only [mapv, List.map_cons, tLook]
    split
    · rfl
    · exact ih
theorem Srt.mapv {l : List (Nm × β)} (h : Srt l) (g : β → γ) : Srt (mapv g l) := by
  unfold Srt Vc.mapv at *
  rw [List.pairwise_map]
  exact h
/-- A number of each, added up. -/
def sumv (n : β → Nat) (l : List (Nm × β)) : Nat := (l.map fun x => n x.2).sum
theorem sumv_lay {l : List (Nm × β)} (hl : Srt l) (n : β → Nat) (s : Nm) (f : β) : sumv n (tLay l s f) + ((tLook l s).map n).getD 0 = sumv n l + n f := by
  unfold sumv
  induction l with
  | nil => simp [tLay, tLook]
  | cons x l ih =>
    obtain ⟨k, g⟩ := x
    simp only [tLay, tLook]
    split
    · rename_i hk
      have := ih hl.tail
      rw [if_neg (nm_ne hk)]
      simp only [List.map_cons, List.sum_cons]
      omega
    · split
      · simp only [List.map_cons, List.sum_cons, Option.map_some, Option.getD_some]
        omega
      · rename_i h1 h2
        have hlt : s < k := by
          rcases nm_tri k s with h' | h' | h'
          · exact absurd h' h1
          · exact absurd h' h2
          · exact h'
        rw [tLook_none fun y hy e => nm_ne (nm_lt_trans hlt (hl.head y hy)) e.symm]
        simp only [List.map_cons, List.sum_cons, Option.map_none, Option.getD_none]
        omega
theorem sumv_gone (l : List (Nm × β)) (n : β → Nat) (s : Nm) : sumv n (tGone l s) + ((tLook l s).map n).getD 0 = sumv n l := by
  unfold sumv
  induction l with
  | nil => simp [tGone, tLook]
  | cons x l ih =>
    obtain ⟨k, g⟩ := x
    simp only [tGone, tLook]
    split
    · simp only [List.map_cons, List.sum_cons, Option.map_some, Option.getD_some]
      omega
    · simp only [List.map_cons, List.sum_cons]
      omega
theorem sumv_ge {l : List (Nm × β)} {s : Nm} {f : β} (n : β → Nat) (h : tLook l s = some f) : n f ≤ sumv n l := by
  have := sumv_gone l n s
  rw [h] at this
  simp at this
  omega
/-- A number of each that is still to come, added up. -/
def sumL (n : β → Nat) (p : Nm → Bool) (l : List (Nm × β)) : Nat := (l.map fun x => if p x.1 then n x.2 else 0).sum
theorem sumL_all (n : β → Nat) (l : List (Nm × β)) : sumL n (fun _ => true) l = sumv n l := by simp [sumL, sumv]
theorem sumL_none (n : β → Nat) (p : Nm → Bool) (l : List (Nm × β)) (h : ∀ s f, tLook l s = some f → p s = false) (hl : Srt l) : sumL n p l = 0 := by
  unfold sumL
  have : ∀ x ∈ l, (if p x.1 then n x.2 else 0) = 0 := fun ⟨s, f⟩ hx => by
    rw [h s f ((tLook_mem hl).2 hx)]; rfl
  induction l with
  | nil => rfl
  | cons x l ih =>
    rw [List.map_cons, List.sum_cons, this x (by simp), ih (fun s f h' => ?_) hl.tail fun y hy => this y (by simp [hy])]
    refine h s f ?_
    rw [tLook_mem hl]
    exact List.mem_cons_of_mem _ (tLook_some h')
theorem sumL_step (n : β → Nat) (p : Nm → Bool) {l : List (Nm × β)} (hl : Srt l) {s : Nm} {f : β} (h : tLook l s = some f) (hp : p s = true) : sumL n (fun t => p t && !decide (t = s)) l + n f = sumL n p l := by
  unfold sumL
  induction l with
  | nil => cases h
  | cons x l ih =>
    obtain ⟨k, g⟩ := x
    simp only [tLook] at h
    simp only [List.map_cons, List.sum_cons]
    split at h
    · rename_i hk
      subst hk
      cases h
      have e : (l.map fun x => if (p x.1 && !decide (x.1 = k)) = true then n x.2 else 0) = l.map fun x => if p x.1 = true then n x.2 else 0 := by
        refine List.map_congr_left fun y hy => ?_
        have := nm_ne (hl.head y hy)
        have hd : decide (y.1 = k) = false := by simpa using fun e : y.1 = k => this e.symm
        rw [hd]
        simp
      rw [e]
      simp [hp]
      omega
    · rename_i hk
      have ih := ih hl.tail h
      have hd : (p k && !decide (k = s)) = p k := by simp [hk]
      simp only [] at ih
      rw [hd]
      omega
/-- The names. -/
def keysA (l : List (Nm × β)) : List Nm := l.map (·.1)
theorem tLook_keys {l : List (Nm × β)} (s : Nm) : (tLook l s).isSome = true ↔ s ∈ keysA l := by
  induction l with
  | nil => simp [tLook, keysA]
  | cons x l ih =>
    obtain ⟨k, g⟩ := x
    simp only [tLook, keysA, List.map_cons, List.mem_cons]
    split
    · rename_i h; subst h; simp
    · rename_i h
      rw [ih]
      have h' : ¬ s = k := fun e => h e.symm
      simp [keysA, h']
end Go.Vc
