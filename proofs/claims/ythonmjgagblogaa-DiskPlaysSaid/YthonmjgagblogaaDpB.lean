/-
  DiskPlays walked. By the session itself.
-/
import Derived.Test.YthonmjgagblogaaDpA
namespace Go.Proofs.Ythonmjgagblogaa
set_option linter.unusedSimpArgs false
set_option linter.unusedVariables false
set_option maxRecDepth 100000
set_option maxHeartbeats 1000000
open Go.Vc Go.RowKit

theorem does_any (w0 w : World) (d x : Nat) (D : Dsk) (s : Sp) (T : Bo w0 w d x D) (hs : SpG w0 s) (hp8 : s.p.length ≤ 8000) :
    Cal Try.prog 18 #[.pointer (some ⟨d, 0, none⟩), .pointer (some ⟨x, 0, none⟩), .agg #[i64 s.kind, i64 s.n, str s.a, str s.b, s.v]] w fun u w' => u = .bool true ∧ ∃ D', Bo w0 w' d x D' := by
  by_cases h1 : s.kind = 1
  · exact does_append w0 w d x D s T hs hp8 h1
  by_cases h2 : s.kind = 2
  · exact does_sync w0 w d x D s T hs hp8 h2
  by_cases h3 : s.kind = 3
  · exact does_trunc w0 w d x D s T hs hp8 h3
  by_cases h4 : s.kind = 4
  · exact does_rename w0 w d x D s T hs hp8 h4
  by_cases h5 : s.kind = 5
  · exact does_remove w0 w d x D s T hs hp8 h5
  by_cases h6 : s.kind = 6
  · exact does_fuse w0 w d x D s T hs hp8 h6
  by_cases h7 : s.kind = 7
  · exact does_crash w0 w d x D s T hs hp8 h7
  exact does_read w0 w d x D s T hs hp8 ⟨h1, h2, h3, h4, h5, h6, h7⟩
theorem dRead_len {D : Dsk} (ok : D.Ok) (a : Nm) : (dRead D a).1.length ≤ 1073741824 := by
  have h1 := ok.used
  have h2 := ok.room
  unfold dRead
  cases hl : tLook D.fs a with
  | none => simp
  | some f =>
    have h3 := sumv_ge (fun f : Fil => f.b.length) hl
    have h5 : D.used = sumv (fun f : Fil => f.b.length) D.fs := rfl
    simp only
    omega
theorem stood_spec (w0 w : World) (d x : Nat) (D : Dsk) (T : Bo w0 w d x D) :
    Cal Try.prog 19 #[.pointer (some ⟨d, 0, none⟩), .pointer (some ⟨x, 0, none⟩)] w fun u w' => u = .bool true ∧ Nw w w' := by
  obtain ⟨F, G, hF, hG, _⟩ := id T
  have ok := hF.ok
  have hmany := ok.many
  refine enter Try.mixed Try.func19 rfl (by kernel_rfl) ?_
  simp -dsimp [go_sem]
  refine call (rlist_spec x D G w hG ok) ?_
  rintro u w1 ⟨hk1, A1, c1, rfl, ho1, hA1⟩
  simp -dsimp [go_sem]
  refine call (dlist_spec d D F w1 (hF.nw hk1)) ?_
  rintro u w2 ⟨hk2, A2, c2, rfl, hr2, hc2, hA2⟩
  have hkl : (keysA D.fs).length = D.fs.length := by simp [keysA]
  have hr1 := (ho1.nw hk2).rd
  rw [← hkl] at ho1 ⊢
  simp -dsimp [go_sem]
  refine call (dtexts_spec A2 A1 c2 c1 (keysA D.fs) (keysA D.fs) w2 hr2 hr1 (by omega)) ?_
  rintro u w3 ⟨rfl, hk3⟩
  simp -dsimp [go_sem]
  refine call (used_spec d D F w3 (((hF.nw hk1).nw hk2).nw hk3)) ?_
  rintro u w4 ⟨rfl, hk4⟩
  simp -dsimp [go_sem]
  refine call (rused_spec x D G w4 ((((hG.nw hk1).nw hk2).nw hk3).nw hk4) ok) ?_
  rintro u w5 ⟨rfl, hw5⟩
  have n4 : Nw w w5 := hw5 ▸ (((hk1.nw hk2).nw hk3).nw hk4)
  have hr5 : Rd w5 A1 ((keysA D.fs).map fun s => str s) := hw5 ▸ ((hr1.nw hk3).nw hk4)
  clear hw5
  have hbne : ((D.used : Int) != (D.used : Int)) = false := by simp
  obtain ⟨L, hL⟩ : ∃ L, L = keysA D.fs := ⟨_, rfl⟩
  rw [← hL] at hr5 ⊢
  have hLl : L.length ≤ 4096 := by rw [hL, hkl]; exact hmany
  simp -dsimp [go_sem, hbne]
  refine loop [4, 6, 7, 8, 9, 10, 25, 26, 27, 28, 29, 30, 31, 32, 33, 34, 35, 36, 37, 38, 39, 40, 41, 42, 43, 44, 45, 46, 47, 48, 49, 50, 51, 52, 53, 54, 55, 56] (by kernel_rfl)
    (fun f w' => Box1 (fun a w' => ∃ i : Nat, a = i64 i ∧ i ≤ L.length ∧ Nw w5 w') (f 6) w') (fun f _ => L.length - (intOf (f 6)).toNat) ⟨0, rfl, Nat.zero_le _, Kp.refl _ _⟩ ?_
  rintro f w6 ⟨i, f6, hi, n56⟩
  have n6 := n4.nw n56
  by_cases hlt : i < L.length
  · obtain ⟨b, o, rfl, hc0⟩ := hr5 i (str L[i]) (by simp [hlt])
    have hc : w6.cell? ⟨b, o + i, none⟩ = some (str L[i]) := n56.cell_some hc0 fun h => h
    have hk0 : (dRead D L[i]).2 = 0 := by
      have hm : L[i] ∈ keysA D.fs := by rw [← hL]; exact List.getElem_mem hlt
      have := (tLook_keys L[i]).2 hm
      unfold dRead
      cases hx : tLook D.fs L[i] with
      | none => rw [hx] at this; cases this
      | some f => rfl
    have hlen := dRead_len ok L[i]
    have hi1 : IntKind.i64.wrap ((i : Int) + 1) = ((i + 1 : Nat) : Int) := w64 (by omega) (by omega)
    obtain ⟨i1, hi1'⟩ : ∃ i1, i1 = i + 1 := ⟨_, rfl⟩
    rw [← hi1'] at hi1
    generalize L[i] = s at *
    simp -dsimp [go_sem, f6, hlt, hc]
    refine call (dread_spec s d D F w6 (hF.nw n6)) ?_
    rintro u w7 ⟨hk7, u7, rfl, hB7⟩
    have hc7 := hk7.cell_some hc fun h => h
    simp -dsimp [go_sem, f6, hlt, hc7]
    refine call (rread_spec s x D G w7 ((hG.nw n6).nw hk7) ok) ?_
    rintro u w8 ⟨hk8, u8, rfl, hB8⟩
    obtain ⟨A7, c7, rfl, ho7, hA7⟩ := id (hB7.nw hk8)
    obtain ⟨A8, c8, rfl, ho8, hA8⟩ := id hB8
    rw [hk0]
    generalize (dRead D s).1 = l at *
    simp -dsimp [go_sem]
    refine call (same_spec A7 A8 c7 c8 l l w8 ho7.rd ho8.rd (by omega)) ?_
    rintro u w9 ⟨rfl, hk9⟩
    simp -dsimp [go_sem, f6, hi1]
    exact ⟨⟨i1, rfl, by omega, ((n56.nw hk7).nw hk8).nw hk9⟩, by simp [intOf]; omega⟩
  · obtain rfl : i = L.length := by omega
    simp -dsimp [go_sem, f6]
    exact n6
theorem dheavy_spec (A : Option Addr) (c : Nat) (q : List Sp) (w : World) (hr : Rd w A (q.flatMap spc)) (hG : ∀ p ∈ q, SpG w p) (hl : q.length ≤ 9223372036854775807) :
    Cal Try.prog 10 #[.slice A q.length c] w fun v w' => (∃ r, v = .bool r ∧ (r = false → ∀ (i : Nat) (hi : i < q.length), i < 120 → q[i].p.length ≤ 8000)) ∧ Nw w w' := by
  refine enter Try.mixed Try.func10 rfl (by kernel_rfl) ?_
  simp -dsimp [go_sem]
  refine loop [2, 3, 4, 5, 6, 7, 8, 9, 10, 11, 12, 13, 14, 15, 16, 17, 18, 19, 20, 21, 22, 23, 24, 25, 26, 27, 28, 29, 30, 31, 32, 33, 34, 35, 36, 37, 38] (by kernel_rfl)
    (fun f w' => Box2 (fun a b w' => ∃ i n : Nat, a = i64 n ∧ b = i64 i ∧ i ≤ q.length ∧ n ≤ 8000 ∧ (∀ (j : Nat) (hj : j < q.length), j < i → q[j].p.length ≤ 8000) ∧ Nw w w') (f 3) (f 4) w') (fun f _ => q.length - (intOf (f 4)).toNat) ⟨0, 0, rfl, rfl, Nat.zero_le _, by omega, fun _ _ h => by omega, Kp.refl _ _⟩ ?_
  rintro f w1 ⟨i, n, f3, f4, hi, hn, hall, n1⟩
  by_cases hlt : i < q.length
  · by_cases h120 : i < 120
    · have h120' : (i : Int) < 120 := by omega
      obtain ⟨g, o, rfl, e0, e1, e2, e3, e4⟩ := sp_at_ (hr.nw n1) hlt
      obtain ⟨⟨A4, c4, hv, hr4, hc4⟩, ha, hb, hp, _⟩ := hG _ (List.getElem_mem hlt)
      rw [hv] at e4
      have kd : Nw w1 w1.drew := (Kp.refl _ _).drew
      have e2d := kd.cell_some e2 fun h => h
      have e3d := kd.cell_some e3 fun h => h
      have e4d := kd.cell_some e4 fun h => h
      have hi1 : IntKind.i64.wrap ((i : Int) + 1) = ((i + 1 : Nat) : Int) := w64 (by omega) (by omega)
      obtain ⟨i1, hi1'⟩ : ∃ i1, i1 = i + 1 := ⟨_, rfl⟩
      rw [← hi1'] at hi1
      have h1 : IntKind.i64.wrap ((n : Int) + (q[i].a.length : Int)) = ((n + q[i].a.length : Nat) : Int) := w64 (by omega) (by omega)
      obtain ⟨n1', hn1⟩ : ∃ n1, n1 = n + q[i].a.length := ⟨_, rfl⟩
      rw [← hn1] at h1
      have h2 : IntKind.i64.wrap ((n1' : Int) + (q[i].b.length : Int)) = ((n1' + q[i].b.length : Nat) : Int) := w64 (by omega) (by omega)
      obtain ⟨n2, hn2⟩ : ∃ n2, n2 = n1' + q[i].b.length := ⟨_, rfl⟩
      rw [← hn2] at h2
      have h3 : IntKind.i64.wrap ((n2 : Int) + (q[i].p.length : Int)) = ((n2 + q[i].p.length : Nat) : Int) := w64 (by omega) (by omega)
      obtain ⟨n3, hn3⟩ : ∃ n3, n3 = n2 + q[i].p.length := ⟨_, rfl⟩
      rw [← hn3] at h3
      have hstep : n3 ≤ 8000 → ∀ (j : Nat) (hj : j < q.length), j < i1 → q[j].p.length ≤ 8000 := fun h j hj hji => by
        by_cases e : j = i
        · subst e; omega
        · exact hall j hj (by omega)
      generalize q[i] = s at *
      obtain ⟨kd', nn, a, b, p, v⟩ := s
      simp only at e2 e3 e4 e2d e3d e4d h1 h2 h3
      simp -dsimp [go_sem, f3, f4, hlt, h120, h120']
      refine draw (.take 0 (.take 1 (.take 2 (.take 3 (.take 4 (.take 5 (.take 6 (.take 7 (.take 8 (.take 9 (.take 10 (.take 11 (.take 12 (.take 13 (.take 14 (.take 15 (.take 16 (.take 17 (.take 18 (.take 19 (.take 20 (.take 21 (.take 22 .done))))))))))))))))))))))) (by kernel_rfl) (fun wz => Nw w1 wz) kd ?_
      simp -dsimp [go_sem, f3, f4, hlt, e2d, e3d, e4d, h1, h2, h3]
      repeat refine ⟨fun wz hz => by simp [hz.cell_some e2 fun h => h, hz.cell_some e3 fun h => h, hz.cell_some e4 fun h => h], ?_⟩
      by_cases h8 : 8000 < n3
      · have h8' : (8000 : Int) < (n3 : Int) := by omega
        simp -dsimp [go_sem, h8, h8']
        exact n1.nw kd
      · have h8' : ¬ (8000 : Int) < (n3 : Int) := by omega
        simp -dsimp [go_sem, h8, h8', f4, hi1]
        exact ⟨⟨i1, n3, rfl, rfl, by omega, by omega, hstep (by omega), n1.nw kd⟩, by simp [intOf]; omega⟩
    · have h120' : ¬ (i : Int) < 120 := by omega
      simp -dsimp [go_sem, f3, f4, hlt, h120, h120']
      exact ⟨fun j hj hj2 => hall j hj (by omega), n1⟩
  · obtain rfl : i = q.length := by omega
    simp -dsimp [go_sem, f3, f4]
    exact ⟨fun j hj hj2 => hall j hj hj, n1⟩
end Go.Proofs.Ythonmjgagblogaa
