/-
  keep: Save, Load walked. By the session itself.
-/
import Derived.Test.YthonmjgagblogaaGreatDkI
import Derived.Test.YthonmjgagblogaaGreatFrmP
namespace Go.Proofs.YthonmjgagblogaaGreat
set_option linter.unusedSimpArgs false
set_option linter.unusedVariables false
set_option maxRecDepth 100000
set_option maxHeartbeats 1000000
open Go.Vc Go.RowKit

/-- A text behind another one. -/
theorem cat_str (a b : Nm) : (⟨a.toArray⟩ : ByteArray) ++ (⟨b.toArray⟩ : ByteArray) = ⟨(a ++ b).toArray⟩ := by
  apply ByteArray.ext
  simp [ByteArray.data_append]
theorem there_spec (s : Nm) (g : Nat) (D : Dsk) (F : Nat → Prop) (w : World) (h : Dk w g D F) :
    Cal Tryz.prog 79 #[.pointer (some ⟨g, 0, none⟩), str s] w fun v w' => v = .bool (tLook D.fs s).isSome ∧ Nw w w' := by
  refine enter Tryz.mixed Tryz.func79 rfl (by kernel_rfl) ?_
  simp -dsimp [go_sem]
  refine call (dread_spec s g D F w h) ?_
  rintro v w1 ⟨hk, u, rfl, hB⟩
  cases hx : tLook D.fs s with
  | none =>
    have e : dRead D s = ([], 7) := by unfold dRead; rw [hx]
    rw [e]
    simp -dsimp [go_sem]
    exact hk
  | some x =>
    have e : dRead D s = (x.b, 0) := by unfold dRead; rw [hx]
    rw [e]
    simp -dsimp [go_sem]
    exact hk

def shadow (s : Nm) : Nm := s ++ [126]
def kW1 (D : Dsk) (sh : Nm) : Dsk × Nat := if (tLook D.fs sh).isSome then dEach fRemove D [sh] else (D, 0)
def kW4 (D : Dsk) (sh s : Nm) : Dsk × Nat := if (dEach fSync D [sh]).2 ≠ 0 then dEach fSync D [sh] else dRename (dEach fSync D [sh]).1 sh s
def kW3 (D : Dsk) (sh s : Nm) (b : List UInt8) : Dsk × Nat := if (dAppend D sh b).2 ≠ 0 then dAppend D sh b else kW4 (dAppend D sh b).1 sh s
/-- A file is made to hold just these bytes. -/
def kWhole (D : Dsk) (s : Nm) (b : List UInt8) : Dsk × Nat := if (kW1 D (shadow s)).2 ≠ 0 then kW1 D (shadow s) else kW3 (kW1 D (shadow s)).1 (shadow s) s b
def kSave (D : Dsk) (s : Nm) (p : List UInt8) : Dsk × Nat :=
  if s.length < 1 ∨ 60 < s.length then (D, 1) else if 1048576 < p.length then (D, 5) else kWhole D s (recL p)
theorem ksave_spec (s : Nm) (ps : List (List UInt8)) (A : Option Addr) (c g : Nat) (D : Dsk) (F S : Nat → Prop) (w : World) (h : Dk w g D F) (hr : Brs w A ps S) (hc : ps.length ≤ c) (hp : ps.length ≤ 140737488355328) (hl : ps.flatten.length ≤ 140737488355328) :
    Cal Tryz.prog 51 #[.pointer (some ⟨g, 0, none⟩), str s, .slice A ps.length c] w fun v w' => v = i64 (kSave D s ps.flatten).2 ∧ ∃ F', Dk w' g (kSave D s ps.flatten).1 F' ∧ Gr F F' w w' ∧ Kp F w w' := by
  refine enter Tryz.mixed Tryz.func51 rfl (by kernel_rfl) ?_
  have hst0 : kSave D s ps.flatten = if s.length < 1 ∨ 60 < s.length then (D, 1) else if 1048576 < ps.flatten.length then (D, 5) else kWhole D s (recL ps.flatten) := rfl
  obtain ⟨n, hn⟩ : ∃ n, n = s.length := ⟨_, rfl⟩
  by_cases h1 : s.length < 1
  · rw [if_pos (.inl h1)] at hst0
    have h1' : (s.length : Int) < 1 := by omega
    simp -dsimp [go_sem, h1, h1']
    rw [hst0]
    exact ⟨rfl, F, h, fun k h => .inl h, Kp.refl _ _⟩
  have h1' : ¬ (s.length : Int) < 1 := by omega
  by_cases h2 : 60 < s.length
  · rw [if_pos (.inr h2)] at hst0
    have h2' : (60 : Int) < (s.length : Int) := by omega
    simp -dsimp [go_sem, h1, h1', h2, h2']
    rw [hst0]
    exact ⟨rfl, F, h, fun k h => .inl h, Kp.refl _ _⟩
  have h2' : ¬ (60 : Int) < (s.length : Int) := by omega
  rw [if_neg (by omega)] at hst0
  obtain ⟨p, hp'⟩ : ∃ p, p = ps.flatten := ⟨_, rfl⟩
  have henc := encode_spec ps A c w S hr hc hp hl
  rw [← hp'] at hst0 henc ⊢
  simp -dsimp [go_sem, h1, h1', h2, h2']
  refine call henc ?_
  rintro v w1 ⟨hk1, ⟨hb, rfl⟩ | ⟨hb, u, rfl, hB⟩⟩
  · rw [if_pos hb] at hst0
    simp -dsimp [go_sem]
    rw [hst0]
    exact ⟨rfl, F, h.nw hk1, fun k h => .inl h, hk1.kp F⟩
  rw [if_neg (by omega)] at hst0
  have hRl0 := recL_len p
  have hD1 := h.nw hk1
  have hcat := cat_str s [126]
  have hn60 : ¬ 9223372036854775807 < s.length + 1 := by omega
  have hst : kWhole D s (recL p) = if (kW1 D (s ++ [126])).2 ≠ 0 then kW1 D (s ++ [126]) else kW3 (kW1 D (s ++ [126])).1 (s ++ [126]) s (recL p) := rfl
  rw [hst0, hst]
  clear hst0 hst
  obtain ⟨sh, hsh⟩ : ∃ sh, sh = s ++ [126] := ⟨_, rfl⟩
  have hsl : sh.length ≤ 9223372036854775807 := by rw [hsh, List.length_append]; simp; omega
  obtain ⟨R, hR⟩ : ∃ R, R = recL p := ⟨_, rfl⟩
  rw [← hR] at hB hRl0 ⊢
  have hRl : R.length ≤ 140737488355328 := by omega
  obtain ⟨A5, c5, rfl, ho5, hA5⟩ := hB
  have hoff : Off A5 F := fun a ha hf => by
    have h1 := hA5 a ha
    have h2 := h.lt _ hf
    omega
  have hc5 := ho5.2.1
  rw [← hsh] at hcat ⊢
  simp -dsimp [go_sem, hcat, hn60]
  refine call (there_spec sh g D F w1 hD1) ?_
  rintro v w2 ⟨rfl, hk2⟩
  have hD2 := hD1.nw hk2
  have hw1 : kW1 D sh = if (tLook D.fs sh).isSome then dEach fRemove D [sh] else (D, 0) := rfl
  cases hx : tLook D.fs sh with
  | none =>
    rw [hx] at hw1
    have hw1 : kW1 D sh = (D, 0) := hw1
    rw [hw1]
    have hR3 : Rd w2 A5 (R.map u8) := ho5.rd.nw hk2
    have hk3 : Kp F w w2 := Nw.kp (hk1.nw hk2) F
    have hg3 : Gr F F w w2 := fun k h => .inl h
    obtain ⟨D3, hD3e⟩ : ∃ D3, D3 = D := ⟨_, rfl⟩
    obtain ⟨F3, hF3⟩ : ∃ F3, F3 = F := ⟨_, rfl⟩
    obtain ⟨w3, hw3⟩ : ∃ w3, w3 = w2 := ⟨_, rfl⟩
    have hD3 : Dk w3 g D3 F3 := by rw [hD3e, hF3, hw3]; exact hD2
    rw [← hw3] at hR3 hk3 hg3 ⊢
    have hg3 : Gr F F3 w w3 := by rw [hF3]; exact hg3
    rw [← hD3e]
    simp -dsimp [go_sem, hcat, hn60]
    have ka : Nw w3 (w3.alloc (.cells #[.slice A5 R.length c5] 22)) := (Kp.refl _ _).alloc _
    refine call (dappend_spec sh [R] _ 1 g D3 F3 (fun _ => False) _ (hD3.nw ka) (Brs.one (p := R) (d := c5) (Blk.fresh rfl) (fun h => h) (hR3.nw ka) (fun _ _ h => h) hc5) (by simp) (by simp) (by simpa using hRl) hsl) ?_
    have hfl : ([R] : List (List UInt8)).flatten = R := by simp
    rw [hfl]
    rintro v w4 ⟨rfl, F4, hD4, hG4, hK4⟩
    have hka : Kp F w (w3.alloc (.cells #[.slice A5 R.length c5] 22)) := Kp.nw hk3 ka
    have hga : Gr F F3 w (w3.alloc (.cells #[.slice A5 R.length c5] 22)) := Gr.wide hg3 (Nat.le_refl _) ka.size
    have hg4 := Gr.trans hga hG4 hka.size hK4.size
    have hk4 := Kp.gr hka hga hK4
    have hw3 : kW3 D3 sh s R = if (dAppend D3 sh R).2 ≠ 0 then dAppend D3 sh R else kW4 (dAppend D3 sh R).1 sh s := rfl
    rw [hw3]
    clear hw3
    obtain ⟨B, hBd⟩ : ∃ B, B = dAppend D3 sh R := ⟨_, rfl⟩
    rw [← hBd] at hD4 ⊢
    obtain ⟨D4, e4⟩ := B
    simp only at hD4 ⊢
    by_cases h4 : e4 = 0
    · subst h4
      simp -dsimp [go_sem, hcat, hn60]
      have kb : Nw w4 (w4.alloc (.cells #[str sh] 9)) := (Kp.refl _ _).alloc _
      refine call (dsync_spec [sh] _ 1 g D4 F4 _ (hD4.nw kb) (Rd.fresh rfl rfl) (fun a ha _ hf => by cases ha; exact Nat.lt_irrefl _ (hD4.lt _ hf)) (by simp) (by simpa using hsl)) ?_
      rintro v w5 ⟨rfl, F5, hD5, hG5, hK5⟩
      have hkb := Kp.nw hk4 kb
      have hgb := Gr.wide hg4 (Nat.le_refl _) kb.size
      have hg5 := Gr.trans hgb hG5 hkb.size hK5.size
      have hk5 := Kp.gr hkb hgb hK5
      have hw4 : kW4 D4 sh s = if (dEach fSync D4 [sh]).2 ≠ 0 then dEach fSync D4 [sh] else dRename (dEach fSync D4 [sh]).1 sh s := rfl
      rw [hw4]
      clear hw4
      obtain ⟨C, hC⟩ : ∃ C, C = dEach fSync D4 [sh] := ⟨_, rfl⟩
      rw [← hC] at hD5 ⊢
      obtain ⟨D5, e5⟩ := C
      simp only at hD5 ⊢
      by_cases h5 : e5 = 0
      · subst h5
        simp -dsimp [go_sem, hcat, hn60]
        refine call (drename_spec sh s g D5 F5 w5 hD5 hsl (by omega)) ?_
        rintro v w6 ⟨rfl, hD6, hK6⟩
        simp -dsimp [go_sem]
        exact ⟨F5, hD6, Gr.wide hg5 (Nat.le_refl _) hK6.size, Kp.gr hk5 hg5 hK6⟩
      · have h5' : ((e5 : Int) != 0) = true := by simp; omega
        simp -dsimp [go_sem, h5', h5]
        exact ⟨F5, hD5, hg5, hk5⟩
    · have h4' : ((e4 : Int) != 0) = true := by simp; omega
      simp -dsimp [go_sem, h4', h4]
      exact ⟨F4, hD4, hg4, hk4⟩
  | some x =>
    rw [hx] at hw1
    have hw1 : kW1 D sh = dEach fRemove D [sh] := hw1
    rw [hw1]
    simp -dsimp [go_sem, hcat, hn60]
    have kb : Nw w2 (w2.alloc (.cells #[str sh] 9)) := (Kp.refl _ _).alloc _
    refine call (dremove_spec [sh] _ 1 g D F _ (hD2.nw kb) (Rd.fresh rfl rfl) (fun a ha _ hf => by cases ha; exact Nat.lt_irrefl _ (hD2.lt _ hf)) (by simp) (by simpa using hsl)) ?_
    rintro v w3 ⟨rfl, F3, hD3, hG3, hK3⟩
    have kn : Nw w (w2.alloc (.cells #[str sh] 9)) := (hk1.nw hk2).nw kb
    have hk3 : Kp F w w3 := (Nw.kp kn F).trans hK3 fun _ _ h => h
    have hg3 : Gr F F3 w w3 := Gr.wide hG3 kn.size (Nat.le_refl _)
    have hR3 : Rd w3 A5 (R.map u8) := ((ho5.rd.nw hk2).nw kb).kp hK3 (hoff.l _)
    obtain ⟨E, hE⟩ : ∃ E, E = dEach fRemove D [sh] := ⟨_, rfl⟩
    rw [← hE] at hD3 ⊢
    obtain ⟨D3, e3⟩ := E
    simp only at hD3 ⊢
    by_cases h3 : e3 = 0
    · subst h3
      rw [if_neg (fun h => h rfl)]
      simp -dsimp [go_sem, hcat, hn60]
      have ka : Nw w3 (w3.alloc (.cells #[.slice A5 R.length c5] 22)) := (Kp.refl _ _).alloc _
      refine call (dappend_spec sh [R] _ 1 g D3 F3 (fun _ => False) _ (hD3.nw ka) (Brs.one (p := R) (d := c5) (Blk.fresh rfl) (fun h => h) (hR3.nw ka) (fun _ _ h => h) hc5) (by simp) (by simp) (by simpa using hRl) hsl) ?_
      have hfl : ([R] : List (List UInt8)).flatten = R := by simp
      rw [hfl]
      rintro v w4 ⟨rfl, F4, hD4, hG4, hK4⟩
      have hka : Kp F w (w3.alloc (.cells #[.slice A5 R.length c5] 22)) := Kp.nw hk3 ka
      have hga : Gr F F3 w (w3.alloc (.cells #[.slice A5 R.length c5] 22)) := Gr.wide hg3 (Nat.le_refl _) ka.size
      have hg4 := Gr.trans hga hG4 hka.size hK4.size
      have hk4 := Kp.gr hka hga hK4
      have hw3 : kW3 D3 sh s R = if (dAppend D3 sh R).2 ≠ 0 then dAppend D3 sh R else kW4 (dAppend D3 sh R).1 sh s := rfl
      rw [hw3]
      clear hw3
      obtain ⟨B, hBd⟩ : ∃ B, B = dAppend D3 sh R := ⟨_, rfl⟩
      rw [← hBd] at hD4 ⊢
      obtain ⟨D4, e4⟩ := B
      simp only at hD4 ⊢
      by_cases h4 : e4 = 0
      · subst h4
        simp -dsimp [go_sem, hcat, hn60]
        have kb : Nw w4 (w4.alloc (.cells #[str sh] 9)) := (Kp.refl _ _).alloc _
        refine call (dsync_spec [sh] _ 1 g D4 F4 _ (hD4.nw kb) (Rd.fresh rfl rfl) (fun a ha _ hf => by cases ha; exact Nat.lt_irrefl _ (hD4.lt _ hf)) (by simp) (by simpa using hsl)) ?_
        rintro v w5 ⟨rfl, F5, hD5, hG5, hK5⟩
        have hkb := Kp.nw hk4 kb
        have hgb := Gr.wide hg4 (Nat.le_refl _) kb.size
        have hg5 := Gr.trans hgb hG5 hkb.size hK5.size
        have hk5 := Kp.gr hkb hgb hK5
        have hw4 : kW4 D4 sh s = if (dEach fSync D4 [sh]).2 ≠ 0 then dEach fSync D4 [sh] else dRename (dEach fSync D4 [sh]).1 sh s := rfl
        rw [hw4]
        clear hw4
        obtain ⟨C, hC⟩ : ∃ C, C = dEach fSync D4 [sh] := ⟨_, rfl⟩
        rw [← hC] at hD5 ⊢
        obtain ⟨D5, e5⟩ := C
        simp only at hD5 ⊢
        by_cases h5 : e5 = 0
        · subst h5
          simp -dsimp [go_sem, hcat, hn60]
          refine call (drename_spec sh s g D5 F5 w5 hD5 hsl (by omega)) ?_
          rintro v w6 ⟨rfl, hD6, hK6⟩
          simp -dsimp [go_sem]
          exact ⟨F5, hD6, Gr.wide hg5 (Nat.le_refl _) hK6.size, Kp.gr hk5 hg5 hK6⟩
        · have h5' : ((e5 : Int) != 0) = true := by simp; omega
          simp -dsimp [go_sem, h5', h5]
          exact ⟨F5, hD5, hg5, hk5⟩
      · have h4' : ((e4 : Int) != 0) = true := by simp; omega
        simp -dsimp [go_sem, h4', h4]
        exact ⟨F4, hD4, hg4, hk4⟩
    · have h3' : ((e3 : Int) != 0) = true := by simp; omega
      simp -dsimp [go_sem, h3', h3]
      exact ⟨F3, hD3, hg3, hk3⟩

def kLoad (D : Dsk) (s : Nm) : List UInt8 × Nat := if (dRead D s).2 ≠ 0 then ([], (dRead D s).2) else if (oneL (dRead D s).1).2 ≠ 0 then ([], 3) else ((oneL (dRead D s).1).1, 0)
theorem kload_spec (s : Nm) (g : Nat) (D : Dsk) (F : Nat → Prop) (w : World) (h : Dk w g D F) :
    Cal Tryz.prog 55 #[.pointer (some ⟨g, 0, none⟩), str s] w fun v w' => Nw w w' ∧ ∃ u, v = .tuple #[u, i64 (kLoad D s).2] ∧ Bs w' u (kLoad D s).1 w.heap.size := by
  have hlen : (dRead D s).1.length ≤ 1073741824 := by
    have h1 := h.ok.used
    have h2 := h.ok.room
    unfold dRead
    cases hx : tLook D.fs s with
    | none => simp
    | some x =>
      have : x.b.length ≤ D.used := sumv_ge (fun f : Fil => f.b.length) hx
      simp only
      omega
  refine enter Tryz.mixed Tryz.func55 rfl (by kernel_rfl) ?_
  have hst : kLoad D s = if (dRead D s).2 ≠ 0 then ([], (dRead D s).2) else if (oneL (dRead D s).1).2 ≠ 0 then ([], 3) else ((oneL (dRead D s).1).1, 0) := rfl
  simp -dsimp [go_sem]
  refine call (dread_spec s g D F w h) ?_
  rintro v w1 ⟨hk, u, rfl, hB⟩
  obtain ⟨E, hE⟩ : ∃ E, E = dRead D s := ⟨_, rfl⟩
  rw [← hE] at hB hst hlen ⊢
  obtain ⟨b, e⟩ := E
  simp only at hB hst hlen ⊢
  by_cases h0 : e = 0
  · subst h0
    rw [if_neg (fun h => h rfl)] at hst
    obtain ⟨A1, c1, rfl, ho1, hA1⟩ := hB
    simp -dsimp [go_sem]
    refine call (one_spec b A1 c1 w1 ho1.rd ho1.2.1 (by omega)) ?_
    rintro v w2 ⟨hk2, u, rfl, hB2⟩
    have k2 := hk.nw hk2
    obtain ⟨O, hO⟩ : ∃ O, O = oneL b := ⟨_, rfl⟩
    rw [← hO] at hB2 hst ⊢
    obtain ⟨p, e2⟩ := O
    simp only at hB2 hst ⊢
    by_cases h2 : e2 = 0
    · subst h2
      rw [if_neg (fun h => h rfl)] at hst
      simp -dsimp [go_sem]
      rw [hst]
      exact ⟨k2, u, ⟨rfl, rfl⟩, hB2.mono hk.size⟩
    · have h2' : ((e2 : Int) != 0) = true := by simp; omega
      rw [if_pos h2] at hst
      simp -dsimp [go_sem, h2']
      rw [hst]
      exact ⟨k2, _, ⟨rfl, rfl⟩, Bs.nil _ _⟩
  · have h0' : ((e : Int) != 0) = true := by simp; omega
    rw [if_pos h0] at hst
    simp -dsimp [go_sem, h0']
    rw [hst]
    exact ⟨hk, _, ⟨rfl, rfl⟩, Bs.nil _ _⟩
end Go.Proofs.YthonmjgagblogaaGreat
