/-
  A ledger in memory; its small functions walked. By the session itself.
-/
import Derived.Test.YthonmjgagblogaaLgA
namespace Go.Proofs.Ythonmjgagblogaa
set_option linter.unusedSimpArgs false
set_option linter.unusedVariables false
set_option maxRecDepth 100000
set_option maxHeartbeats 1000000
open Go.Vc Go.RowKit

/-- What a ledger's numbers and rows may be. -/
structure Led.Ok (L : Led) : Prop where
  last : L.base + L.ents.length ≤ 1099511627776
  data : L.data.length ≤ 1073741824
  ents : ∀ e ∈ L.ents, e.length ≤ 1073741824
/-- Block l is a ledger on the disk g: its own blocks lie in G; what it reads only lies outside V. -/
def Lg (w : World) (l g : Nat) (p : Nm) (L : Led) (G V : Nat → Prop) : Prop := ∃ B d A c vs,
  Blk w l 115 #[.pointer (some ⟨g, 0, none⟩), str p, i64 L.base, .slice B L.data.length d, .slice A L.ents.length c, .bool L.dead] ∧
  Rd w B (L.data.map u8) ∧ Ofl B (L.data.map u8) V ∧ L.data.length ≤ d ∧ Ow w 32 1 A L.ents.length c vs ∧ RV w vs L.ents V ∧
  Off A (At l) ∧ (∀ k, k = l ∨ blk A k → G k) ∧ (∀ k, G k → V k) ∧ (∀ k, V k → k < w.heap.size)
section
variable {w w' : World} {l g : Nat} {p : Nm} {L : Led} {G V V' S : Nat → Prop}
theorem Lg.step (h : Lg w l g p L G V) (k : Kp S w w') (hS : ∀ i, S i → V i ∧ ¬ G i) (hG : Gr V V' w w') (hV : ∀ i, V i → V' i) : Lg w' l g p L G V' := by
  obtain ⟨B, d, A, c, vs, hb, hr, ho, hd, hA, hv, hAl, h1, h2, h3⟩ := h
  have hrS : Ofl B (L.data.map u8) S := fun a ha hx hs => ho a ha hx (hS _ hs).1
  have kV : Kp V w w' := k.mono fun i _ hi => (hS i hi).1
  exact ⟨B, d, A, c, vs, hb.kp k fun e => (hS _ e).2 (h1 _ (.inl rfl)), hr.kp k hrS, ho.gr hr hG, hd, hA.kp k (Off.of_blk fun i hi e => (hS _ e).2 (h1 _ (.inr hi))), hv.gr kV hG, hAl, h1, fun i hi => hV i (h2 i hi), fun i hi => (hG i hi).elim (fun e => Nat.lt_of_lt_of_le (h3 i e) k.size) fun e => e.2⟩
theorem Lg.kp (h : Lg w l g p L G V) (k : Kp S w w') (hS : ∀ i, S i → V i ∧ ¬ G i) : Lg w' l g p L G V := h.step k hS (fun i hi => .inl hi) fun i hi => hi
theorem Lg.nw (h : Lg w l g p L G V) (k : Nw w w') : Lg w' l g p L G V := h.kp k fun _ h => h.elim
theorem Lg.lt (h : Lg w l g p L G V) : ∀ k, V k → k < w.heap.size := by
  obtain ⟨B, d, A, c, vs, hb, hr, ho, hd, hA, hv, hAl, h1, h2, h3⟩ := h
  exact h3
theorem Lg.gl (h : Lg w l g p L G V) : G l := by
  obtain ⟨B, d, A, c, vs, hb, hr, ho, hd, hA, hv, hAl, h1, h2, h3⟩ := h
  exact h1 _ (.inl rfl)
theorem Lg.gv (h : Lg w l g p L G V) : ∀ k, G k → V k := by
  obtain ⟨B, d, A, c, vs, hb, hr, ho, hd, hA, hv, hAl, h1, h2, h3⟩ := h
  exact h2
theorem Lg.c0 (h : Lg w l g p L G V) : w.cell? ⟨l, 0, none⟩ = some (.pointer (some ⟨g, 0, none⟩)) := by
  obtain ⟨B, d, A, c, vs, hb, _⟩ := h
  exact hb.cell 0
theorem Lg.c1 (h : Lg w l g p L G V) : w.cell? ⟨l, 1, none⟩ = some (str p) := by
  obtain ⟨B, d, A, c, vs, hb, _⟩ := h
  exact hb.cell 1
theorem Lg.c2 (h : Lg w l g p L G V) : w.cell? ⟨l, 2, none⟩ = some (i64 L.base) := by
  obtain ⟨B, d, A, c, vs, hb, _⟩ := h
  exact hb.cell 2
theorem Lg.c5 (h : Lg w l g p L G V) : w.cell? ⟨l, 5, none⟩ = some (.bool L.dead) := by
  obtain ⟨B, d, A, c, vs, hb, _⟩ := h
  exact hb.cell 5
end
theorem logname_spec (l : Nat) (p : Nm) (w : World) (h : w.cell? ⟨l, 1, none⟩ = some (str p)) (hp : p.length ≤ 20) :
    Cal Try.prog 85 #[.pointer (some ⟨l, 0, none⟩)] w fun v w' => v = str (logN p) ∧ w' = w := by
  refine enter Try.mixed Try.func85 rfl (by kernel_rfl) ?_
  have hn : ¬ 9223372036854775807 < p.length + 4 := by omega
  have hcat := cat_str p [45, 108, 111, 103]
  simp -dsimp [go_sem, h, hn, hcat]
  rfl
theorem imgname_spec (l : Nat) (p : Nm) (w : World) (h : w.cell? ⟨l, 1, none⟩ = some (str p)) (hp : p.length ≤ 20) :
    Cal Try.prog 87 #[.pointer (some ⟨l, 0, none⟩)] w fun v w' => v = str (imgN p) ∧ w' = w := by
  refine enter Try.mixed Try.func87 rfl (by kernel_rfl) ?_
  have hn : ¬ 9223372036854775807 < p.length + 4 := by omega
  have hcat := cat_str p [45, 105, 109, 103]
  simp -dsimp [go_sem, h, hn, hcat]
  rfl
theorem has_spec (s : Nm) (g : Nat) (D : Dsk) (F : Nat → Prop) (w : World) (h : Dk w g D F) :
    Cal Try.prog 111 #[.pointer (some ⟨g, 0, none⟩), str s] w fun v w' => v = .bool (tLook D.fs s).isSome ∧ Nw w w' := by
  have hmany := h.ok.many
  refine enter Try.mixed Try.func111 rfl (by kernel_rfl) ?_
  simp -dsimp [go_sem]
  refine call (dlist_spec g D F w h) ?_
  rintro v w1 ⟨hk, A, c, rfl, hr, hc, hA⟩
  have hl : (keysA D.fs).length = D.fs.length := by simp [keysA]
  rw [← hl]
  simp -dsimp [go_sem]
  refine call (contains_spec (keysA D.fs) s A c w1 hr (by omega)) ?_
  rintro v w2 ⟨rfl, rfl⟩
  have e : decide (s ∈ keysA D.fs) = (tLook D.fs s).isSome := by
    rw [Bool.eq_iff_iff, decide_eq_true_iff]
    exact (tLook_keys s).symm
  simp -dsimp [go_sem, e]
  exact hk
theorem kW1_none {D : Dsk} {s : Nm} (h : tLook D.fs s = none) : kW1 D s = (D, 0) := by unfold kW1; rw [h]; rfl
theorem kW1_some {D : Dsk} {s : Nm} {x : Fil} (h : tLook D.fs s = some x) : kW1 D s = dEach fRemove D [s] := by unfold kW1; rw [h]; rfl
theorem removes_spec (ns : List Nm) (A : Option Addr) (c g : Nat) (D : Dsk) (F : Nat → Prop) (w : World) (h : Dk w g D F) (hr : Rd w A (ns.map fun s => str s)) (hA : Ofl A (ns.map fun s => str s) F) (hl : ns.length ≤ 140737488355328) (hs : ∀ s ∈ ns, s.length ≤ 9223372036854775807) :
    Cal Try.prog 88 #[.pointer (some ⟨g, 0, none⟩), .slice A ns.length c] w fun v w' => v = i64 (rmvs D ns).2 ∧ ∃ F', Dk w' g (rmvs D ns).1 F' ∧ Gr F F' w w' ∧ Kp F w w' := by
  refine enter Try.mixed Try.func88 rfl (by kernel_rfl) ?_
  simp -dsimp [go_sem]
  refine loop [4, 6, 7, 10, 11, 12, 13, 14, 15, 16, 17, 18, 19, 20, 21, 22, 23, 24, 25] (by kernel_rfl)
    (fun f w' => Box1 (fun a w' => ∃ (i : Nat) (D1 : Dsk) (F1 : Nat → Prop), a = i64 i ∧ i ≤ ns.length ∧ rmvs D ns = rmvs D1 (ns.drop i) ∧ Dk w' g D1 F1 ∧ Gr F F1 w w' ∧ Kp F w w') (f 10) w') (fun f _ => ns.length - (intOf (f 10)).toNat)
    ⟨0, D, F, rfl, Nat.zero_le _, rfl, h, fun k hk => .inl hk, Kp.refl _ _⟩ ?_
  rintro f w1 ⟨i, D1, F1, f10, hi, he, hD, hG, hK⟩
  by_cases hlt : i < ns.length
  · have hi1 : IntKind.i64.wrap ((i : Int) + 1) = ((i + 1 : Nat) : Int) := w64 (by omega) (by omega)
    have hr1 := hr.kp hK hA
    obtain ⟨b, o, rfl, hc⟩ := hr1 i (str ns[i]) (by simp [hlt])
    have hsl := hs _ (List.getElem_mem hlt)
    rw [List.drop_eq_getElem_cons hlt] at he
    obtain ⟨i1, hi1'⟩ : ∃ i1, i1 = i + 1 := ⟨_, rfl⟩
    rw [← hi1'] at hi1 he
    generalize ns[i] = s at *
    simp -dsimp [go_sem, f10, hlt, hc]
    refine call (has_spec s g D1 F1 w1 hD) ?_
    rintro v w2 ⟨rfl, hk2⟩
    have hD2 := hD.nw hk2
    have hG2 : Gr F F1 w w2 := Gr.wide hG (Nat.le_refl _) hk2.size
    have hK2 := hK.nw hk2
    cases hx : tLook D1.fs s with
    | none =>
      have e : rmvs D1 (s :: ns.drop i1) = rmvs D1 (ns.drop i1) := by simp [rmvs, kW1_none hx]
      rw [e] at he
      simp -dsimp [go_sem, f10, hi1]
      exact ⟨⟨i1, D1, F1, rfl, by omega, he, hD2, hG2, hK2⟩, by simp [intOf]; omega⟩
    | some x =>
      have e : rmvs D1 (s :: ns.drop i1) = if (dEach fRemove D1 [s]).2 ≠ 0 then dEach fRemove D1 [s] else rmvs (dEach fRemove D1 [s]).1 (ns.drop i1) := by simp only [rmvs, kW1_some hx]
      rw [e] at he
      simp -dsimp [go_sem]
      have kb : Nw w2 (w2.alloc (.cells #[str s] 9)) := (Kp.refl _ _).alloc _
      refine call (dremove_spec [s] (some ⟨w2.heap.size, 0, none⟩) 1 g D1 F1 _ (hD2.nw kb) (Rd.fresh rfl rfl) (hD2.ofl_new (Nat.le_refl _) _) (by simp) (by simpa using hsl)) ?_
      rintro v w3 ⟨rfl, F3, hD3, hG3, hK3⟩
      have hKb := hK2.nw kb
      have hGb : Gr F F1 w (w2.alloc (.cells #[str s] 9)) := Gr.wide hG2 (Nat.le_refl _) kb.size
      have hG3' := Gr.trans hGb hG3 hKb.size hK3.size
      have hK3' := Kp.gr hKb hGb hK3
      obtain ⟨R, hR⟩ : ∃ R, R = dEach fRemove D1 [s] := ⟨_, rfl⟩
      rw [← hR] at he hD3 ⊢
      obtain ⟨D3, e3⟩ := R
      simp only at he hD3 ⊢
      by_cases h0 : e3 = 0
      · subst h0
        rw [if_neg (fun h => h rfl)] at he
        simp -dsimp [go_sem, f10, hi1]
        exact ⟨⟨i1, D3, F3, rfl, by omega, he, hD3, hG3', hK3'⟩, by simp [intOf]; omega⟩
      · rw [if_pos h0] at he
        have h0' : ((e3 : Int) != 0) = true := by simp; omega
        rw [he]
        simp -dsimp [go_sem, h0', h0]
        exact ⟨F3, hD3, hG3', hK3'⟩
  · obtain rfl : i = ns.length := by omega
    rw [List.drop_length] at he
    simp -dsimp [go_sem, f10]
    rw [he]
    exact ⟨rfl, F1, hD, hG, hK⟩
theorem last_spec (l g : Nat) (p : Nm) (L : Led) (G V : Nat → Prop) (w : World) (h : Lg w l g p L G V) (ok : L.Ok) :
    Cal Try.prog 44 #[.pointer (some ⟨l, 0, none⟩)] w fun v w' => v = i64 L.last ∧ Nw w w' := by
  obtain ⟨B, d, A, c, vs, hb, _⟩ := h
  have hk := ok.last
  have kd : Nw w w.drew := (Kp.refl _ _).drew
  have c2 : w.cell? ⟨l, 2, none⟩ = some (i64 L.base) := hb.cell 2
  have c4 : w.cell? ⟨l, 4, none⟩ = some (.slice A L.ents.length c) := hb.cell 4
  have c2d := kd.cell_some c2 fun h => h
  have c4d := kd.cell_some c4 fun h => h
  have hw : IntKind.i64.wrap ((L.base : Int) + (L.ents.length : Int)) = ((L.last : Nat) : Int) := by unfold Led.last; rw [w64 (by omega) (by omega)]; omega
  refine enter Try.mixed Try.func44 rfl (by kernel_rfl) ?_
  simp -dsimp [go_sem]
  refine draw (.take 0 (.take 1 (.take 2 (.take 3 (.take 4 (.take 5 (.take 6 (.take 7 (.take 8 (.take 9 (.take 10 .done))))))))))) (by kernel_rfl) (fun wz => Nw w wz) kd ?_
  simp -dsimp [go_sem, c2d, c4d, hw]
  exact ⟨fun wz hz => by simp [hz.cell_some c2 fun h => h], fun wz hz => by simp [hz.cell_some c4 fun h => h], kd⟩
theorem last_nil (w : World) : Cal Try.prog 44 #[.pointer none] w fun v w' => v = i64 0 ∧ w' = w := by
  refine enter Try.mixed Try.func44 rfl (by kernel_rfl) ?_
  simp -dsimp [go_sem]
theorem base_spec (l g : Nat) (p : Nm) (L : Led) (G V : Nat → Prop) (w : World) (h : Lg w l g p L G V) (ok : L.Ok) :
    Cal Try.prog 46 #[.pointer (some ⟨l, 0, none⟩)] w fun v w' => Nw w w' ∧ ∃ u, v = .tuple #[i64 L.base, u] ∧ Bs w' u L.data w.heap.size := by
  obtain ⟨B, d, A, c, vs, hb, hr, ho, hd, _⟩ := h
  have hk := ok.data
  have kd : Nw w w.drew := (Kp.refl _ _).drew
  have c2 : w.cell? ⟨l, 2, none⟩ = some (i64 L.base) := hb.cell 2
  have c3 : w.cell? ⟨l, 3, none⟩ = some (.slice B L.data.length d) := hb.cell 3
  have c2d := kd.cell_some c2 fun h => h
  have c3d := kd.cell_some c3 fun h => h
  refine enter Try.mixed Try.func46 rfl (by kernel_rfl) ?_
  simp -dsimp [go_sem]
  refine draw (.take 0 (.take 1 (.take 2 (.take 3 (.take 4 (.take 5 (.take 6 (.take 7 (.alt 8 (.take 9 (.take 10 .done)) .stop))))))))) (by kernel_rfl) (fun wz => Nw w wz) kd ?_
  simp -dsimp [go_sem, c2d, c3d]
  refine ⟨fun wz hz => by simp [hz.cell_some c2 fun h => h], fun wz hz => by simp [hz.cell_some c3 fun h => h], ?_⟩
  refine call (clone_spec B d L.data _ (hr.nw kd) (by omega)) ?_
  rintro v w1 ⟨hB, hk1⟩
  refine ⟨kd.nw hk1, ?_⟩
  simp -dsimp [go_sem]
  exact ⟨kd.nw hk1, hB⟩
theorem base_nil (w : World) : Cal Try.prog 46 #[.pointer none] w fun v w' => v = .tuple #[i64 0, .slice none 0 0] ∧ w' = w := by
  refine enter Try.mixed Try.func46 rfl (by kernel_rfl) ?_
  simp -dsimp [go_sem]
theorem at_spec (i : Int) (l g : Nat) (p : Nm) (L : Led) (G V : Nat → Prop) (w : World) (h : Lg w l g p L G V) (ok : L.Ok) (hi : -9223372036854775808 ≤ i) :
    Cal Try.prog 45 #[.pointer (some ⟨l, 0, none⟩), i64 i] w fun v w' => Nw w w' ∧ ∃ u, v = .tuple #[u, i64 (lAt L i).2] ∧ Bs w' u (lAt L i).1 w.heap.size := by
  obtain ⟨B, d, A, c, vs, hb, hr, ho, hd, hA, hv, _⟩ := id h
  have hk := ok.last
  have c2 : w.cell? ⟨l, 2, none⟩ = some (i64 L.base) := hb.cell 2
  have c4 : w.cell? ⟨l, 4, none⟩ = some (.slice A L.ents.length c) := hb.cell 4
  refine enter Try.mixed Try.func45 rfl (by kernel_rfl) ?_
  have e0 : lAt L i = if i ≤ L.base ∨ (L.last : Int) < i then ([], 7) else (L.ents.getD (i - L.base - 1).toNat [], 0) := rfl
  by_cases h1 : i ≤ L.base
  · rw [if_pos (.inl h1)] at e0
    rw [e0]
    simp -dsimp [go_sem, c2, h1]
    exact ⟨Kp.refl _ _, Bs.nil _ _⟩
  · simp -dsimp [go_sem, c2, h1]
    refine call (last_spec l g p L G V w h ok) ?_
    rintro v w1 ⟨rfl, hk1⟩
    by_cases h2 : (L.last : Int) < i
    · rw [if_pos (.inr h2)] at e0
      rw [e0]
      simp -dsimp [go_sem, h2]
      exact ⟨hk1, Bs.nil _ _⟩
    · rw [if_neg (by omega)] at e0
      have hl : L.last = L.base + L.ents.length := rfl
      obtain ⟨j, hj⟩ : ∃ j : Nat, i = L.base + j + 1 := ⟨(i - L.base - 1).toNat, by omega⟩
      have hjl : j < L.ents.length := by omega
      have hjn : (i - L.base - 1).toNat = j := by omega
      rw [hjn] at e0
      have hw1 : IntKind.i64.wrap (i - (L.base : Int)) = ((j + 1 : Nat) : Int) := by rw [w64 (by omega) (by omega)]; omega
      obtain ⟨j1, hj1⟩ : ∃ j1, j1 = j + 1 := ⟨_, rfl⟩
      rw [← hj1] at hw1
      have hw2 : IntKind.i64.wrap ((j1 : Int) - 1) = (j : Int) := by rw [w64 (by omega) (by omega)]; omega
      obtain ⟨X, xd, hvj, hrX, hoX, hxd⟩ := hv.2 j hjl
      obtain ⟨b, o, rfl, hcj⟩ := hA.rd _ _ hvj
      have hel := ok.ents _ (List.getElem_mem hjl)
      have hgd : L.ents.getD j [] = L.ents[j] := by simp [List.getD, hjl]
      rw [hgd] at e0
      have c21 := hk1.cell_some c2 fun h => h
      have c41 := hk1.cell_some c4 fun h => h
      have cj1 := hk1.cell_some hcj fun h => h
      have hrX1 := hrX.nw hk1
      have kd : Nw w1 w1.drew := (Kp.refl _ _).drew
      have c2d := kd.cell_some c21 fun h => h
      have c4d := kd.cell_some c41 fun h => h
      have cjd := kd.cell_some cj1 fun h => h
      simp -dsimp [go_sem, h2]
      refine draw (.take 0 (.take 1 (.take 2 (.take 3 (.take 4 (.take 5 (.take 6 (.take 7 (.take 8 (.take 9 (.take 10 (.take 11 (.take 12 (.alt 13 (.take 14 (.take 15 .done)) .stop)))))))))))))) (by kernel_rfl) (fun wz => Nw w1 wz) kd ?_
      simp -dsimp [go_sem, c2d, c4d, hw1, hw2, hjl, cjd]
      repeat refine ⟨fun wz hz => by simp [hz.cell_some c21 fun h => h, hz.cell_some c41 fun h => h, hz.cell_some cj1 fun h => h], ?_⟩
      refine call (clone_spec X xd L.ents[j] _ (hrX1.nw kd) (by omega)) ?_
      rintro v w2 ⟨hB, hk2⟩
      refine ⟨kd.nw hk2, ?_⟩
      rw [e0]
      simp -dsimp [go_sem]
      exact ⟨hk1.nw (kd.nw hk2), hB.mono (Nat.le_trans hk1.size kd.size)⟩
theorem at_nil (i : Int) (w : World) : Cal Try.prog 45 #[.pointer none, i64 i] w fun v w' => v = .tuple #[.slice none 0 0, i64 7] ∧ w' = w := by
  refine enter Try.mixed Try.func45 rfl (by kernel_rfl) ?_
  simp -dsimp [go_sem]
theorem dies_spec (e : Nat) (l g : Nat) (p : Nm) (L : Led) (G V : Nat → Prop) (w : World) (h : Lg w l g p L G V) :
    Cal Try.prog 86 #[.pointer (some ⟨l, 0, none⟩), i64 e] w fun v w' => v = i64 e ∧ Lg w' l g p { L with dead := L.dead || decide (e ≠ 0) } G V ∧ Kp (At l) w w' := by
  obtain ⟨B, d, A, c, vs, hb, hr, ho, hd, hA, hv, hAl, h1, h2, h3⟩ := id h
  have c5 := hb.cell 5
  have f5 := hb.frozen 5
  have hVl : V l := h2 _ (h1 _ (.inl rfl))
  refine enter Try.mixed Try.func86 rfl (by kernel_rfl) ?_
  have fin : ∀ x : Bool, x = (L.dead || decide (e ≠ 0)) → Lg (w.setCell ⟨l, 5, none⟩ (.bool x)) l g p { L with dead := L.dead || decide (e ≠ 0) } G V ∧ Kp (At l) w (w.setCell ⟨l, 5, none⟩ (.bool x)) := fun x hx => by
    have ks : Kp (At l) w (w.setCell ⟨l, 5, none⟩ (.bool x)) := (Kp.refl _ _).setCell_at _ _
    refine ⟨⟨B, d, A, c, vs, ?_, hr.kp ks (fun a ha hx e => ho a ha hx ((show a.block = l from e) ▸ hVl)), ho, hd, hA.kp ks hAl, hv.gr (ks.mono fun i _ (e : i = l) => e ▸ hVl) (fun i hi => .inl hi), hAl, h1, h2, fun k hk => Nat.lt_of_lt_of_le (h3 k hk) ks.size⟩, ks⟩
    have := hb.set 5 (.bool x)
    rw [hx] at this ⊢
    simpa using this
  cases hdd : L.dead with
  | true =>
    rw [hdd] at c5
    simp -dsimp [go_sem, c5, f5]
    have := fin true (by rw [hdd]; rfl)
    rwa [hdd] at this
  | false =>
    rw [hdd] at c5
    by_cases h0 : e = 0
    · subst h0
      simp -dsimp [go_sem, c5, f5]
      have := fin false (by rw [hdd]; rfl)
      rwa [hdd] at this
    · have h0' : ((e : Int) != 0) = true := by simp; omega
      simp -dsimp [go_sem, c5, f5, h0', h0]
      have := fin true (by rw [hdd]; simp [h0])
      rw [hdd] at this
      simpa [h0] using this
end Go.Proofs.Ythonmjgagblogaa
