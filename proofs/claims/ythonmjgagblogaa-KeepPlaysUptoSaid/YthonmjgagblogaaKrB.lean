/-
  The reference's keep: Whole walked. By the session itself.
-/
import Derived.Test.YthonmjgagblogaaKrA
namespace Go.Proofs.Ythonmjgagblogaa
set_option linter.unusedSimpArgs false
set_option linter.unusedVariables false
set_option maxRecDepth 100000
set_option maxHeartbeats 1000000
open Go.Vc Go.RowKit

theorem rwhole_spec (s : Nm) (b : List UInt8) (X : Option Addr) (xc x : Nat) (D : Dsk) (F : Nat → Prop) (w : World) (h : RefD w x D F) (ok : D.Ok) (hs : s.length ≤ 60) (hr : Rd w X (b.map u8)) (hX : Ofl X (b.map u8) F) (hb : b.length ≤ 1073741824) :
    Cal Try.prog 69 #[.pointer (some ⟨x, 0, none⟩), str s, .slice X b.length xc] w fun v w' => v = i64 (kWhole D s b).2 ∧ ∃ F', RefD w' x (kWhole D s b).1 F' ∧ Gr F F' w w' ∧ Kp F w w' := by
  have hn : ¬ 9223372036854775807 < s.length + 1 := by omega
  have hcat : (⟨s.toArray⟩ : ByteArray) ++ ⟨#[126]⟩ = ⟨(shadow s).toArray⟩ := cat_str s [126]
  have hsl : (shadow s).length ≤ 9223372036854775807 := by unfold shadow; rw [List.length_append]; simp; omega
  have e0 : kWhole D s b = if (kW1 D (shadow s)).2 ≠ 0 then kW1 D (shadow s) else kW3 (kW1 D (shadow s)).1 (shadow s) s b := rfl
  have e1 : kW1 D (shadow s) = if (tLook D.fs (shadow s)).isSome then dEach fRemove D [shadow s] else (D, 0) := rfl
  refine enter Try.mixed Try.func69 rfl (by kernel_rfl) ?_
  generalize shadow s = sh at *
  simp -dsimp [go_sem, hn, hcat]
  refine call (rkhas_spec sh x D F w h ok) ?_
  rintro v w1 ⟨rfl, hk1⟩
  have h1 := h.nw hk1
  cases hx : tLook D.fs sh with
  | none =>
    rw [hx] at e1
    have e1 : kW1 D sh = (D, 0) := e1
    rw [e1, if_neg (fun h => h rfl)] at e0
    simp -dsimp [go_sem, hn, hcat]
    have hrA := hr.kp (Nw.kp hk1 F) hX
    have eA : kW3 D sh s b = if (dAppend D sh b).2 ≠ 0 then dAppend D sh b else kW4 (dAppend D sh b).1 sh s := rfl
    rw [eA] at e0
    have okA := dAppend_ok ok sh b
    refine call (rappend_spec sh b X xc x D F w1 h1 ok hsl hrA (fun a ha hx hf => (((fun k hk => .inl hk) : Gr F F w w1) _ hf).elim (fun e => hX a ha hx e) fun e => hr.ofl (S := fun k => w.heap.size ≤ k) (fun _ h => h) a ha hx e.1) hb) ?_
    rintro v w3 ⟨rfl, F3, h3, hG3, hK3⟩
    have gG3 := Gr.trans (fun k hk => .inl hk) hG3 (Kp.size (Nw.kp hk1 F)) hK3.size
    have kK3 := Kp.gr (Nw.kp hk1 F) (fun k hk => .inl hk) hK3
    obtain ⟨R3, hR3⟩ : ∃ R3, R3 = dAppend D sh b := ⟨_, rfl⟩
    rw [← hR3] at e0 h3 okA ⊢
    obtain ⟨D3, e3⟩ := R3
    simp only at e0 h3 okA ⊢
    by_cases z3 : e3 = 0
    · subst z3
      rw [if_neg (fun h => h rfl)] at e0
      have eS : kW4 D3 sh s = if (dStep fSync D3 sh).2 ≠ 0 then dStep fSync D3 sh else dRename (dStep fSync D3 sh).1 sh s := by unfold kW4; rw [dEach_one]
      rw [eS] at e0
      have okS := dSync_ok okA sh
      simp -dsimp [go_sem, hn, hcat]
      refine call (rsync_spec sh x D3 F3 w3 h3 okA hsl) ?_
      rintro v w4 ⟨rfl, F4, h4, hG4, hK4⟩
      have gG4 := Gr.trans gG3 hG4 kK3.size hK4.size
      have kK4 := Kp.gr kK3 gG3 hK4
      obtain ⟨R4, hR4⟩ : ∃ R4, R4 = dStep fSync D3 sh := ⟨_, rfl⟩
      rw [← hR4] at e0 h4 okS ⊢
      obtain ⟨D4, e4⟩ := R4
      simp only at e0 h4 okS ⊢
      by_cases z4 : e4 = 0
      · subst z4
        rw [if_neg (fun h => h rfl)] at e0
        simp -dsimp [go_sem, hn, hcat]
        refine call (rrename_spec sh s x D4 F4 w4 h4 okS hsl (by omega)) ?_
        rintro v w5 ⟨rfl, F5, h5, hG5, hK5⟩
        rw [e0]
        simp -dsimp [go_sem]
        exact ⟨F5, h5, Gr.trans gG4 hG5 kK4.size hK5.size, Kp.gr kK4 gG4 hK5⟩
      · rw [if_pos z4] at e0
        have z4' : ((e4 : Int) == 0) = false := by simp; omega
        rw [e0]
        simp -dsimp [go_sem, z4']
        exact ⟨F4, h4, gG4, kK4⟩
    · rw [if_pos z3] at e0
      have z3' : ((e3 : Int) == 0) = false := by simp; omega
      rw [e0]
      simp -dsimp [go_sem, z3']
      exact ⟨F3, h3, gG3, kK3⟩
  | some y =>
    rw [hx] at e1
    have e1 : kW1 D sh = dEach fRemove D [sh] := e1
    rw [dEach_one] at e1
    rw [e1] at e0
    have okR := dRemove_ok ok sh
    simp -dsimp [go_sem, hn, hcat]
    refine call (rremove_spec sh x D F w1 h1 ok hsl) ?_
    rintro v w2 ⟨rfl, F2, h2, hG2, hK2⟩
    have gG2 : Gr F F2 w w2 := Gr.wide hG2 hk1.size (Nat.le_refl _)
    have kK2 : Kp F w w2 := (Nw.kp hk1 F).trans hK2 fun _ _ h => h
    obtain ⟨R2, hR2⟩ : ∃ R2, R2 = dStep fRemove D sh := ⟨_, rfl⟩
    rw [← hR2] at e0 h2 okR ⊢
    obtain ⟨D2, e2⟩ := R2
    simp only at e0 h2 okR ⊢
    by_cases z2 : e2 = 0
    · subst z2
      rw [if_neg (fun h => h rfl)] at e0
      simp -dsimp [go_sem, hn, hcat]
      have hrA := hr.kp kK2 hX
      have eA : kW3 D2 sh s b = if (dAppend D2 sh b).2 ≠ 0 then dAppend D2 sh b else kW4 (dAppend D2 sh b).1 sh s := rfl
      rw [eA] at e0
      have okA := dAppend_ok okR sh b
      refine call (rappend_spec sh b X xc x D2 F2 w2 h2 okR hsl hrA (fun a ha hx hf => ((gG2 : Gr F F2 w w2) _ hf).elim (fun e => hX a ha hx e) fun e => hr.ofl (S := fun k => w.heap.size ≤ k) (fun _ h => h) a ha hx e.1) hb) ?_
      rintro v w3 ⟨rfl, F3, h3, hG3, hK3⟩
      have gG3 := Gr.trans gG2 hG3 (Kp.size kK2) hK3.size
      have kK3 := Kp.gr kK2 gG2 hK3
      obtain ⟨R3, hR3⟩ : ∃ R3, R3 = dAppend D2 sh b := ⟨_, rfl⟩
      rw [← hR3] at e0 h3 okA ⊢
      obtain ⟨D3, e3⟩ := R3
      simp only at e0 h3 okA ⊢
      by_cases z3 : e3 = 0
      · subst z3
        rw [if_neg (fun h => h rfl)] at e0
        have eS : kW4 D3 sh s = if (dStep fSync D3 sh).2 ≠ 0 then dStep fSync D3 sh else dRename (dStep fSync D3 sh).1 sh s := by unfold kW4; rw [dEach_one]
        rw [eS] at e0
        have okS := dSync_ok okA sh
        simp -dsimp [go_sem, hn, hcat]
        refine call (rsync_spec sh x D3 F3 w3 h3 okA hsl) ?_
        rintro v w4 ⟨rfl, F4, h4, hG4, hK4⟩
        have gG4 := Gr.trans gG3 hG4 kK3.size hK4.size
        have kK4 := Kp.gr kK3 gG3 hK4
        obtain ⟨R4, hR4⟩ : ∃ R4, R4 = dStep fSync D3 sh := ⟨_, rfl⟩
        rw [← hR4] at e0 h4 okS ⊢
        obtain ⟨D4, e4⟩ := R4
        simp only at e0 h4 okS ⊢
        by_cases z4 : e4 = 0
        · subst z4
          rw [if_neg (fun h => h rfl)] at e0
          simp -dsimp [go_sem, hn, hcat]
          refine call (rrename_spec sh s x D4 F4 w4 h4 okS hsl (by omega)) ?_
          rintro v w5 ⟨rfl, F5, h5, hG5, hK5⟩
          rw [e0]
          simp -dsimp [go_sem]
          exact ⟨F5, h5, Gr.trans gG4 hG5 kK4.size hK5.size, Kp.gr kK4 gG4 hK5⟩
        · rw [if_pos z4] at e0
          have z4' : ((e4 : Int) == 0) = false := by simp; omega
          rw [e0]
          simp -dsimp [go_sem, z4']
          exact ⟨F4, h4, gG4, kK4⟩
      · rw [if_pos z3] at e0
        have z3' : ((e3 : Int) == 0) = false := by simp; omega
        rw [e0]
        simp -dsimp [go_sem, z3']
        exact ⟨F3, h3, gG3, kK3⟩
    · rw [if_pos z2] at e0
      have z2' : ((e2 : Int) != 0) = true := by simp; omega
      rw [e0]
      simp -dsimp [go_sem, z2', z2]
      exact ⟨F2, h2, gG2, kK2⟩
theorem rksave_spec (s : Nm) (p : List UInt8) (X : Option Addr) (xc x : Nat) (D : Dsk) (F : Nat → Prop) (w : World) (h : RefD w x D F) (ok : D.Ok) (hF : ∀ k, F k → k < w.heap.size) (hsl : s.length ≤ 9223372036854775807) (hr : Rd w X (p.map u8)) (hp : p.length ≤ 140737488355328) :
    Cal Try.prog 23 #[.pointer (some ⟨x, 0, none⟩), str s, .slice X p.length xc] w fun v w' => v = i64 (kSave D s p).2 ∧ ∃ F', RefD w' x (kSave D s p).1 F' ∧ Gr F F' w w' ∧ Kp F w w' := by
  have e0 : kSave D s p = if s.length < 1 ∨ 60 < s.length then (D, 1) else if 1048576 < p.length then (D, 5) else kWhole D s (recL p) := rfl
  refine enter Try.mixed Try.func23 rfl (by kernel_rfl) ?_
  by_cases g1 : s.length < 1
  · have g1' : (s.length : Int) < 1 := by omega
    rw [if_pos (.inl g1)] at e0
    rw [e0]
    simp -dsimp [go_sem, g1, g1']
    exact ⟨F, h, fun k hk => .inl hk, Kp.refl _ _⟩
  have g1' : ¬ (s.length : Int) < 1 := by omega
  by_cases g2 : 60 < s.length
  · have g2' : (60 : Int) < (s.length : Int) := by omega
    rw [if_pos (.inr g2)] at e0
    rw [e0]
    simp -dsimp [go_sem, g1, g1', g2, g2']
    exact ⟨F, h, fun k hk => .inl hk, Kp.refl _ _⟩
  have g2' : ¬ (60 : Int) < (s.length : Int) := by omega
  rw [if_neg (by omega)] at e0
  simp -dsimp [go_sem, g1, g1', g2, g2']
  refine call (refEncode_spec p X xc w hr hp) ?_
  rintro v w1 ⟨hk1, (⟨hbig, rfl⟩ | ⟨hsm, u, rfl, hB⟩)⟩
  · rw [if_pos hbig] at e0
    rw [e0]
    simp -dsimp [go_sem]
    exact ⟨F, h.nw hk1, fun k hk => .inl hk, Nw.kp hk1 F⟩
  · rw [if_neg (by omega)] at e0
    rw [e0]
    have hrl := recL_len p
    generalize recL p = R at *
    obtain ⟨A, c, rfl, ho, hA⟩ := id hB
    simp -dsimp [go_sem]
    refine call (rwhole_spec s R A c x D F w1 (h.nw hk1) ok (by omega) ho.rd (fun a ha _ hf => by have := hA a ha; have := hF _ hf; omega) (by omega)) ?_
    rintro v w2 ⟨rfl, F2, h2, hG2, hK2⟩
    simp -dsimp [go_sem]
    exact ⟨F2, h2, Gr.wide hG2 hk1.size (Nat.le_refl _), (Nw.kp hk1 F).trans hK2 fun _ _ h => h⟩
end Go.Proofs.Ythonmjgagblogaa
