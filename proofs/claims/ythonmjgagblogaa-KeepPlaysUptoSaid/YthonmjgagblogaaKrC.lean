/-
  The reference's keep: Clear walked; both keeps side by side. By the session itself.
-/
import Derived.Test.YthonmjgagblogaaKrB
import Derived.Test.YthonmjgagblogaaKpD
namespace Go.Proofs.Ythonmjgagblogaa
set_option linter.unusedSimpArgs false
set_option linter.unusedVariables false
set_option maxRecDepth 100000
set_option maxHeartbeats 1000000
open Go.Vc Go.RowKit

theorem rkclear_spec (p : Nm) (stay : List Nm) (A : Option Addr) (c x : Nat) (D : Dsk) (F : Nat → Prop) (w : World) (h : RefD w x D F) (ok : D.Ok) (hF : ∀ k, F k → k < w.heap.size) (hr : Rd w A (stay.map fun s => str s)) (hA : Ofl A (stay.map fun s => str s) F) (hl : stay.length ≤ 140737488355328) :
    Cal Try.prog 28 #[.pointer (some ⟨x, 0, none⟩), str p, .slice A stay.length c] w fun v w' => v = i64 (kClr p stay D (keysA D.fs)).2 ∧ ∃ F', RefD w' x (kClr p stay D (keysA D.fs)).1 F' ∧ Gr F F' w w' ∧ Kp F w w' := by
  refine enter Try.mixed Try.func28 rfl (by kernel_rfl) ?_
  simp -dsimp [go_sem]
  refine call (rlist_spec x D F w h ok) ?_
  rintro v w1 ⟨hk1, A1, c1, rfl, ho1, hA1⟩
  have hr1 := ho1.rd
  have hD1 := h.nw hk1
  have hkl : (keysA D.fs).length = D.fs.length := by simp [keysA]
  have hmany := ok.many
  have hnm : ∀ n ∈ keysA D.fs, n.length ≤ 64 := fun n hn => by
    obtain ⟨x, hx⟩ := Option.isSome_iff_exists.1 ((tLook_keys n).2 hn)
    exact ok.names n x hx
  clear ho1
  obtain ⟨ns, hns⟩ : ∃ ns, ns = keysA D.fs := ⟨_, rfl⟩
  rw [← hns] at hr1 hkl hnm ⊢
  rw [← hkl] at hmany ⊢
  obtain ⟨N, hN⟩ : ∃ N, N = ns.length := ⟨_, rfl⟩
  rw [← hN] at hmany ⊢
  simp -dsimp [go_sem]
  refine loop [6, 8, 9, 10, 11, 16, 17, 18, 19, 20, 21, 22, 23, 24, 25, 26, 27, 28, 29, 30, 31, 32, 33, 34, 35, 36, 37, 38, 39, 40, 41, 42, 43, 44, 45, 46, 47, 48, 49, 50, 51, 52, 53, 54, 55, 56, 57, 58, 59, 60, 61, 62, 63, 64, 65, 66, 67, 68] (by kernel_rfl)
    (fun f w' => Box1 (fun a w' => ∃ (i : Nat) (Di : Dsk) (Fi : Nat → Prop), i ≤ N ∧ a = i64 i ∧ kClr p stay D ns = kClr p stay Di (ns.drop i) ∧ RefD w' x Di Fi ∧ Di.Ok ∧ Gr F Fi w1 w' ∧ Kp F w1 w') (f 8) w')
    (fun f _ => N - (intOf (f 8)).toNat) ⟨0, D, F, Nat.zero_le _, rfl, rfl, hD1, ok, Gr.refl _ _, Kp.refl _ _⟩ ?_
  rintro f w2 ⟨i, Di, Fi, hi, f8, hE, hD, okD, hG, hK⟩
  by_cases hlt' : i < N
  · have hlt : i < ns.length := by omega
    have hoff : Ofl A1 (ns.map fun s => str s) F := fun a ha _ hf => by
      have h1 := hA1 a ha
      have h2 := hF _ hf
      omega
    obtain ⟨b, o, rfl, hc⟩ := (hr1.kp hK hoff) i (str ns[i]) (by simp [hlt])
    have hnl := hnm ns[i] (List.getElem_mem hlt)
    rw [List.drop_eq_getElem_cons hlt] at hE
    have hwk : IntKind.i64.wrap ((i : Int) + 1) = ((i + 1 : Nat) : Int) := w64 (by omega) (by omega)
    obtain ⟨k1, hk1'⟩ : ∃ k1, k1 = i + 1 := ⟨_, rfl⟩
    rw [← hk1'] at hwk hE
    obtain ⟨n, hn⟩ : ∃ n, n = ns[i] := ⟨_, rfl⟩
    rw [← hn] at hc hE hnl
    have hst : kClr p stay Di (n :: ns.drop k1) = if hasPre n p = false ∨ n ∈ stay then kClr p stay Di (ns.drop k1) else if (dEach fRemove Di [n]).2 ≠ 0 then dEach fRemove Di [n] else kClr p stay (dEach fRemove Di [n]).1 (ns.drop k1) := rfl
    by_cases h1 : n.length < p.length
    · have h1' : (n.length : Int) < (p.length : Int) := by omega
      have hpre : hasPre n p = false := by unfold hasPre; rw [decide_eq_false (by omega)]; rfl
      rw [if_pos (.inl hpre)] at hst
      rw [hst] at hE
      simp -dsimp [go_sem, f8, hlt', hc, h1, h1', hwk]
      exact ⟨⟨k1, Di, Fi, by omega, rfl, hE, hD, okD, hG, hK⟩, by simp [intOf]; omega⟩
    have h1' : ¬ (n.length : Int) < (p.length : Int) := by omega
    have h1n : p.length ≤ n.length := by omega
    have h1i : (p.length : Int) ≤ (n.length : Int) := by omega
    have hx := sub_str n p.length
    have he : ((⟨(n.take p.length).toArray⟩ : ByteArray) != ⟨p.toArray⟩) = !decide (n.take p.length = p) := by rw [bne, bytes_eqn]
    have hnn : ¬ 9223372036854775807 < p.length := by omega
    by_cases h2 : n.take p.length = p
    · have hpre : hasPre n p = true := by unfold hasPre; rw [decide_eq_true (by omega), decide_eq_true h2]; rfl
      have he3 : (n.take p.length == p) = true := by simpa using h2
      simp -dsimp [go_sem, f8, hlt', hc, h1, h1', h1n, h1i, hx, he3]
      refine loop [9, 10, 41, 42, 43, 44, 45, 46, 47, 48, 49, 50, 51, 52, 53, 54, 55, 56, 57, 58] (by kernel_rfl)
        (fun f' w' => Box2 (fun a b w' => ∃ k : Nat, k ≤ stay.length ∧ b = i64 k ∧ a = .bool (decide (n ∈ stay.take k)) ∧ Nw w2 w') (f' 9) (f' 10) w') (fun f' _ => stay.length - (intOf (f' 10)).toNat) ⟨0, Nat.zero_le _, rfl, by rw [List.take_zero, decide_eq_false (List.not_mem_nil)]; rfl, Kp.refl _ _⟩ ?_
      rintro f' w3 ⟨k, hk, f10, f9, n23⟩
      by_cases hk2 : k < stay.length
      · obtain ⟨b2, o2, rfl, hc2⟩ := ((hr.nw hk1).kp hK hA) k (str stay[k]) (by simp [hk2])
        have hc3 := n23.cell_some hc fun h => h
        have hc23 := n23.cell_some hc2 fun h => h
        have kd : Nw w3 w3.drew := (Kp.refl _ _).drew
        have hc3d := kd.cell_some hc3 fun h => h
        have hc23d := kd.cell_some hc23 fun h => h
        have hwk2 : IntKind.i64.wrap ((k : Int) + 1) = ((k + 1 : Nat) : Int) := w64 (by omega) (by omega)
        have htk : stay.take (k + 1) = stay.take k ++ [stay[k]] := List.take_succ_eq_append_getElem hk2
        obtain ⟨k2, hk2'⟩ : ∃ k2, k2 = k + 1 := ⟨_, rfl⟩
        rw [← hk2'] at hwk2 htk
        obtain ⟨s, hs⟩ : ∃ s, s = stay[k] := ⟨_, rfl⟩
        rw [← hs] at hc2 hc23 hc23d htk
        have he2 : ((⟨s.toArray⟩ : ByteArray) == ⟨n.toArray⟩) = decide (s = n) := bytes_eqn s n
        have hmem : (n ∈ stay.take k2) ↔ (n ∈ stay.take k ∨ s = n) := by rw [htk]; simp [eq_comm]
        by_cases hin : n ∈ stay.take k
        · rw [decide_eq_true hin] at f9
          have hin2 : decide (n ∈ stay.take k2) = true := decide_eq_true (hmem.2 (.inl hin))
          simp -dsimp [go_sem, f9, f10, hk2]
          refine draw (.take 0 (.take 1 (.take 2 (.take 3 (.take 4 (.take 5 (.take 6 (.take 7 (.take 8 (.take 9 (.take 10 (.take 11 (.take 12 .done))))))))))))) (by kernel_rfl) (fun wz => Nw w3 wz) kd ?_
          simp -dsimp [go_sem, f9, f10, hwk2]
          exact ⟨⟨k2, by omega, rfl, by rw [hin2], n23.nw kd⟩, by simp [intOf]; omega⟩
        · rw [decide_eq_false hin] at f9
          have hin2 : decide (n ∈ stay.take k2) = decide (s = n) := by rw [decide_eq_decide, hmem]; simp [hin]
          simp -dsimp [go_sem, f9, f10, hk2]
          refine draw (.take 0 (.take 1 (.take 2 (.take 3 (.take 4 (.take 5 (.take 6 (.take 7 (.take 8 (.take 9 (.take 10 (.take 11 (.take 12 .done))))))))))))) (by kernel_rfl) (fun wz => Nw w3 wz) kd ?_
          simp -dsimp [go_sem, f9, f10, f8, hk2, hlt', hc3d, hc23d, hwk2]
          repeat refine ⟨fun wz hz => by simp [hz.cell_some hc3 fun h => h, hz.cell_some hc23 fun h => h], ?_⟩
          exact ⟨⟨k2, by omega, rfl, by rw [hin2]; congr 1; rw [Bool.eq_iff_iff]; simp, n23.nw kd⟩, by simp [intOf]; omega⟩
      · obtain rfl : k = stay.length := by omega
        rw [List.take_length] at f9
        have hK3 : Kp F w1 w3 := Kp.nw hK n23
        have hG3 : Gr F Fi w1 w3 := Gr.wide hG (Nat.le_refl _) n23.size
        by_cases hst2 : n ∈ stay
        · rw [decide_eq_true hst2] at f9
          rw [if_pos (.inr hst2)] at hst
          rw [hst] at hE
          simp -dsimp [go_sem, f9, f10, f8, hwk]
          exact ⟨⟨k1, Di, Fi, by omega, rfl, hE, hD.nw n23, okD, hG3, hK3⟩, by simp [intOf]; omega⟩
        · rw [decide_eq_false hst2] at f9
          rw [if_neg (by simp [hpre, hst2]), dEach_one] at hst
          rw [hst] at hE
          have hc3 := n23.cell_some hc fun h => h
          simp -dsimp [go_sem, f9, f10, f8, hlt', hc3]
          refine call (rremove_spec n x Di Fi w3 (hD.nw n23) okD (by omega)) ?_
          rintro v w5 ⟨rfl, F5, hD5, hG5, hK5⟩
          have hG15 := Gr.trans hG3 hG5 hK3.size hK5.size
          have hK15 := Kp.gr hK3 hG3 hK5
          have ok5 := dRemove_ok okD n
          obtain ⟨E, hE2⟩ : ∃ E, E = dStep fRemove Di n := ⟨_, rfl⟩
          rw [← hE2] at hE hD5 ok5 ⊢
          obtain ⟨D5, e5⟩ := E
          simp only at hE hD5 ok5 ⊢
          by_cases h5 : e5 = 0
          · subst h5
            rw [if_neg (fun h => h rfl)] at hE
            simp -dsimp [go_sem, f8, hwk]
            exact ⟨⟨k1, D5, F5, by omega, rfl, hE, hD5, ok5, hG15, hK15⟩, by simp [intOf]; omega⟩
          · have h5' : ((e5 : Int) != 0) = true := by simp; omega
            rw [if_pos h5] at hE
            simp -dsimp [go_sem, h5', h5]
            rw [hE]
            exact ⟨rfl, F5, hD5, Gr.wide hG15 (show w.heap.size ≤ _ from hk1.size) (Nat.le_refl _), (hk1.kp F).trans hK15 fun _ _ h => h⟩
    · have hpre : hasPre n p = false := by unfold hasPre; rw [decide_eq_false h2]; simp
      have he3 : (n.take p.length == p) = false := by simpa using h2
      rw [if_pos (.inl hpre)] at hst
      rw [hst] at hE
      simp -dsimp [go_sem, f8, hlt', hc, h1, h1', h1n, h1i, hx, he3, hwk]
      exact ⟨⟨k1, Di, Fi, by omega, rfl, hE, hD, okD, hG, hK⟩, by simp [intOf]; omega⟩
  · obtain rfl : i = N := by omega
    rw [hN, List.drop_length] at hE
    simp -dsimp [go_sem, f8]
    rw [hE]
    exact ⟨rfl, Fi, hD, Gr.wide hG hk1.size (Nat.le_refl _), (hk1.kp F).trans hK fun _ _ h => h⟩
section
variable {w0 w w1 : World} {N : Nat → Prop} {d x : Nat} {D E : Dsk}
theorem Pr.psave (T : Pr w0 w N d D x E) (k1 : Nw w w1) (hN : ∀ i, N i → i < w1.heap.size) (s : Nm) (ps : List (List UInt8)) (A : Option Addr) (c : Nat) (hr : Brs w1 A ps fun _ => False) (hc : ps.length ≤ c) (hp : ps.length ≤ 140737488355328) (hl : ps.flatten.length ≤ 140737488355328) :
    Cal Try.prog 22 #[.pointer (some ⟨d, 0, none⟩), str s, .slice A ps.length c] w1 fun v w' => v = i64 (kSave D s ps.flatten).2 ∧ Pr w0 w' N d (kSave D s ps.flatten).1 x E ∧ Kp (Ns w0 N) w1 w' :=
  T.pc k1 hN fun F h hF hlt => ksave_spec s ps A c d D F _ w1 h hr hc hp hl
theorem Pr.rsave (T : Pr w0 w N d E x D) (ok : D.Ok) (k1 : Nw w w1) (hN : ∀ i, N i → i < w1.heap.size) (s : Nm) (p : List UInt8) (A : Option Addr) (c : Nat) (hr : Rd w1 A (p.map u8)) (hp : p.length ≤ 140737488355328) (hs : s.length ≤ 9223372036854775807) :
    Cal Try.prog 23 #[.pointer (some ⟨x, 0, none⟩), str s, .slice A p.length c] w1 fun v w' => v = i64 (kSave D s p).2 ∧ Pr w0 w' N d E x (kSave D s p).1 ∧ Kp (Ns w0 N) w1 w' :=
  T.rc k1 hN fun F h hF hlt => rksave_spec s p A c x D F w1 h ok (fun k hk => Nat.lt_of_lt_of_le (hlt k hk) k1.size) hs hr hp
theorem Pr.pload (T : Pr w0 w N d D x E) (k1 : Nw w w1) (s : Nm) :
    Cal Try.prog 24 #[.pointer (some ⟨d, 0, none⟩), str s] w1 fun v w' => Nw w1 w' ∧ ∃ u, v = .tuple #[u, i64 (kLoad D s).2] ∧ Bs w' u (kLoad D s).1 w1.heap.size := by
  obtain ⟨F, G, h1, h2, h3, h4, h5, h6⟩ := T
  exact kload_spec s d D F w1 (h1.nw k1)
theorem Pr.rload (T : Pr w0 w N d E x D) (ok : D.Ok) (k1 : Nw w w1) (s : Nm) :
    Cal Try.prog 25 #[.pointer (some ⟨x, 0, none⟩), str s] w1 fun v w' => Nw w1 w' ∧ ∃ u, v = .tuple #[u, i64 (kLoad D s).2] ∧ Bs w' u (kLoad D s).1 w1.heap.size := by
  obtain ⟨F, G, h1, h2, h3, h4, h5, h6⟩ := T
  exact rkload_spec s x D G w1 (h2.nw k1) ok
theorem Pr.pclear (T : Pr w0 w N d D x E) (k1 : Nw w w1) (hN : ∀ i, N i → i < w1.heap.size) (p : Nm) (stay : List Nm) (A : Option Addr) (c : Nat) (hr : Rd w1 A (stay.map fun s => str s)) (hA : ∀ F : Nat → Prop, (∀ i, F i → Ns w0 N i) → (∀ i, F i → i < w.heap.size) → Ofl A (stay.map fun s => str s) F) (hl : stay.length ≤ 140737488355328) :
    Cal Try.prog 27 #[.pointer (some ⟨d, 0, none⟩), str p, .slice A stay.length c] w1 fun v w' => v = i64 (kClr p stay D (keysA D.fs)).2 ∧ Pr w0 w' N d (kClr p stay D (keysA D.fs)).1 x E ∧ Kp (Ns w0 N) w1 w' :=
  T.pc k1 hN fun F h hF hlt => kclear_spec p stay A c d D F w1 h hr (hA F hF hlt) hl
theorem Pr.rclear (T : Pr w0 w N d E x D) (ok : D.Ok) (k1 : Nw w w1) (hN : ∀ i, N i → i < w1.heap.size) (p : Nm) (stay : List Nm) (A : Option Addr) (c : Nat) (hr : Rd w1 A (stay.map fun s => str s)) (hA : ∀ F : Nat → Prop, (∀ i, F i → Ns w0 N i) → (∀ i, F i → i < w.heap.size) → Ofl A (stay.map fun s => str s) F) (hl : stay.length ≤ 140737488355328) :
    Cal Try.prog 28 #[.pointer (some ⟨x, 0, none⟩), str p, .slice A stay.length c] w1 fun v w' => v = i64 (kClr p stay D (keysA D.fs)).2 ∧ Pr w0 w' N d E x (kClr p stay D (keysA D.fs)).1 ∧ Kp (Ns w0 N) w1 w' :=
  T.rc k1 hN fun F h hF hlt => rkclear_spec p stay A c x D F w1 h ok (fun k hk => Nat.lt_of_lt_of_le (hlt k hk) k1.size) hr (hA F hF hlt) hl
end
end Go.Proofs.Ythonmjgagblogaa
