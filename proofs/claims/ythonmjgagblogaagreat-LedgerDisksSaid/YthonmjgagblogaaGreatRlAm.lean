/-
  The reference's ledger in memory; its small functions walked. By the session itself. The reference's ledger: image walked. By the session itself. The reference's ledger: entries walked. By the session itself. The reference's ledger: Open walked. By the session itself. LedgerDisks: both ledgers told apart by nothing; both disks. By the session itself. LedgerDisks walked. By the session itself.
-/
import Derived.Test.YthonmjgagblogaaGreatLgF
import Derived.Test.YthonmjgagblogaaGreatDkUm
import Derived.Test.YthonmjgagblogaaGreatOctT
import Derived.Test.YthonmjgagblogaaGreatKrA
import Derived.Test.YthonmjgagblogaaGreatFrmR
import Derived.Test.YthonmjgagblogaaGreatLgK
namespace Go.Proofs.YthonmjgagblogaaGreat
set_option linter.unusedSimpArgs false
set_option linter.unusedVariables false
set_option maxRecDepth 100000
set_option maxHeartbeats 1000000
open Go.Vc Go.RowKit

/-- Block l is a ledger of the reference on its disk g: its own blocks lie in G; what it reads only lies outside V. -/
def Rl (w : World) (l g : Nat) (p : Nm) (L : Led) (G V : Nat → Prop) : Prop := ∃ B d A c vs,
  Blk w l 74 #[.pointer (some ⟨g, 0, none⟩), str p, i64 L.base, .slice B L.data.length d, .slice A L.ents.length c, .bool L.dead] ∧
  Rd w B (L.data.map u8) ∧ Ofl B (L.data.map u8) V ∧ L.data.length ≤ d ∧ Ow w 22 1 A L.ents.length c vs ∧ RV w vs L.ents V ∧
  Off A (At l) ∧ (∀ k, k = l ∨ blk A k → G k) ∧ (∀ k, G k → V k) ∧ (∀ k, V k → k < w.heap.size)
section
variable {w w' : World} {l g : Nat} {p : Nm} {L : Led} {G V V' S : Nat → Prop}
theorem Rl.step (h : Rl w l g p L G V) (k : Kp S w w') (hS : ∀ i, S i → V i ∧ ¬ G i) (hG : Gr V V' w w') (hV : ∀ i, V i → V' i) : Rl w' l g p L G V' := by
  obtain ⟨B, d, A, c, vs, hb, hr, ho, hd, hA, hv, hAl, h1, h2, h3⟩ := h
  have hrS : Ofl B (L.data.map u8) S := fun a ha hx hs => ho a ha hx (hS _ hs).1
  have kV : Kp V w w' := k.mono fun i _ hi => (hS i hi).1
  exact ⟨B, d, A, c, vs, hb.kp k fun e => (hS _ e).2 (h1 _ (.inl rfl)), hr.kp k hrS, ho.gr hr hG, hd, hA.kp k (Off.of_blk fun i hi e => (hS _ e).2 (h1 _ (.inr hi))), hv.gr kV hG, hAl, h1, fun i hi => hV i (h2 i hi), fun i hi => (hG i hi).elim (fun e => Nat.lt_of_lt_of_le (h3 i e) k.size) fun e => e.2⟩
theorem Rl.kp (h : Rl w l g p L G V) (k : Kp S w w') (hS : ∀ i, S i → V i ∧ ¬ G i) : Rl w' l g p L G V := h.step k hS (fun i hi => .inl hi) fun i hi => hi
theorem Rl.nw (h : Rl w l g p L G V) (k : Nw w w') : Rl w' l g p L G V := h.kp k fun _ h => h.elim
theorem Rl.lt (h : Rl w l g p L G V) : ∀ k, V k → k < w.heap.size := by
  obtain ⟨B, d, A, c, vs, hb, hr, ho, hd, hA, hv, hAl, h1, h2, h3⟩ := h
  exact h3
theorem Rl.gl (h : Rl w l g p L G V) : G l := by
  obtain ⟨B, d, A, c, vs, hb, hr, ho, hd, hA, hv, hAl, h1, h2, h3⟩ := h
  exact h1 _ (.inl rfl)
theorem Rl.gv (h : Rl w l g p L G V) : ∀ k, G k → V k := by
  obtain ⟨B, d, A, c, vs, hb, hr, ho, hd, hA, hv, hAl, h1, h2, h3⟩ := h
  exact h2
theorem Rl.c0 (h : Rl w l g p L G V) : w.cell? ⟨l, 0, none⟩ = some (.pointer (some ⟨g, 0, none⟩)) := by
  obtain ⟨B, d, A, c, vs, hb, _⟩ := h
  exact hb.cell 0
theorem Rl.c1 (h : Rl w l g p L G V) : w.cell? ⟨l, 1, none⟩ = some (str p) := by
  obtain ⟨B, d, A, c, vs, hb, _⟩ := h
  exact hb.cell 1
theorem Rl.c2 (h : Rl w l g p L G V) : w.cell? ⟨l, 2, none⟩ = some (i64 L.base) := by
  obtain ⟨B, d, A, c, vs, hb, _⟩ := h
  exact hb.cell 2
theorem Rl.c5 (h : Rl w l g p L G V) : w.cell? ⟨l, 5, none⟩ = some (.bool L.dead) := by
  obtain ⟨B, d, A, c, vs, hb, _⟩ := h
  exact hb.cell 5
end
theorem rlast_spec (l g : Nat) (p : Nm) (L : Led) (G V : Nat → Prop) (w : World) (h : Rl w l g p L G V) (ok : L.Ok) :
    Cal Tryz.prog 40 #[.pointer (some ⟨l, 0, none⟩)] w fun v w' => v = i64 L.last ∧ Nw w w' := by
  obtain ⟨B, d, A, c, vs, hb, _⟩ := h
  have hk := ok.last
  have kd : Nw w w.drew := (Kp.refl _ _).drew
  have c2 : w.cell? ⟨l, 2, none⟩ = some (i64 L.base) := hb.cell 2
  have c4 : w.cell? ⟨l, 4, none⟩ = some (.slice A L.ents.length c) := hb.cell 4
  have c2d := kd.cell_some c2 fun h => h
  have c4d := kd.cell_some c4 fun h => h
  have hw : IntKind.i64.wrap ((L.base : Int) + (L.ents.length : Int)) = ((L.last : Nat) : Int) := by unfold Led.last; rw [w64 (by omega) (by omega)]; omega
  refine enter Tryz.mixed Tryz.func40 rfl (by kernel_rfl) ?_
  simp -dsimp [go_sem]
  refine draw (.take 0 (.take 1 (.take 2 (.take 3 (.take 4 (.take 5 (.take 6 (.take 7 (.take 8 (.take 9 (.take 10 .done))))))))))) (by kernel_rfl) (fun wz => Nw w wz) kd ?_
  simp -dsimp [go_sem, c2d, c4d, hw]
  exact ⟨fun wz hz => by simp [hz.cell_some c2 fun h => h], fun wz hz => by simp [hz.cell_some c4 fun h => h], kd⟩
theorem rat_spec (i : Int) (l g : Nat) (p : Nm) (L : Led) (G V : Nat → Prop) (w : World) (h : Rl w l g p L G V) (ok : L.Ok) (hi : -9223372036854775808 ≤ i) :
    Cal Tryz.prog 42 #[.pointer (some ⟨l, 0, none⟩), i64 i] w fun v w' => Nw w w' ∧ ∃ u, v = .tuple #[u, i64 (lAt L i).2] ∧ Bs w' u (lAt L i).1 w.heap.size := by
  obtain ⟨B, d, A, c, vs, hb, hr, ho, hd, hA, hv, _⟩ := id h
  have hk := ok.last
  have c2 : w.cell? ⟨l, 2, none⟩ = some (i64 L.base) := hb.cell 2
  have c4 : w.cell? ⟨l, 4, none⟩ = some (.slice A L.ents.length c) := hb.cell 4
  refine enter Tryz.mixed Tryz.func42 rfl (by kernel_rfl) ?_
  have e0 : lAt L i = if i ≤ L.base ∨ (L.last : Int) < i then ([], 7) else (L.ents.getD (i - L.base - 1).toNat [], 0) := rfl
  by_cases h1 : i ≤ L.base
  · rw [if_pos (.inl h1)] at e0
    rw [e0]
    simp -dsimp [go_sem, c2, h1]
    exact ⟨Kp.refl _ _, Bs.nil _ _⟩
  · simp -dsimp [go_sem, c2, h1]
    refine call (rlast_spec l g p L G V w h ok) ?_
    rintro v w1 ⟨rfl, hk1⟩
    by_cases h2 : (L.last : Int) < i
    · rw [if_pos (.inr h2)] at e0
      rw [e0]
      simp -dsimp [go_sem, h2]
      exact ⟨hk1, Bs.nil _ _⟩
    · rw [if_neg (by omega)] at e0
      have hl : L.last = L.base + L.ents.length := rfl
      obtain ⟨j, hj⟩ : ∃ j : Nat, i = L.base + j + 1 := ⟨(i - L.base - 1).toNat, by omega⟩
      have hjl : j < L.ents.length := by omega
      have hjn : (i - L.base - 1).toNat = j := by omega
      rw [hjn] at e0
      have hw1 : IntKind.i64.wrap (i - (L.base : Int)) = ((j + 1 : Nat) : Int) := by rw [w64 (by omega) (by omega)]; omega
      obtain ⟨j1, hj1⟩ : ∃ j1, j1 = j + 1 := ⟨_, rfl⟩
      rw [← hj1] at hw1
      have hw2 : IntKind.i64.wrap ((j1 : Int) - 1) = (j : Int) := by rw [w64 (by omega) (by omega)]; omega
      obtain ⟨X, xd, hvj, hrX, hoX, hxd⟩ := hv.2 j hjl
      obtain ⟨b, o, rfl, hcj⟩ := hA.rd _ _ hvj
      have hel := ok.ents _ (List.getElem_mem hjl)
      have hgd : L.ents.getD j [] = L.ents[j] := by simp [List.getD, hjl]
      rw [hgd] at e0
      have c21 := hk1.cell_some c2 fun h => h
      have c41 := hk1.cell_some c4 fun h => h
      have cj1 := hk1.cell_some hcj fun h => h
      have hrX1 := hrX.nw hk1
      have kd : Nw w1 w1.drew := (Kp.refl _ _).drew
      have c2d := kd.cell_some c21 fun h => h
      have c4d := kd.cell_some c41 fun h => h
      have cjd := kd.cell_some cj1 fun h => h
      simp -dsimp [go_sem, h2]
      refine draw (.take 1 (.take 2 (.take 3 (.take 4 (.take 5 (.take 6 (.take 7 (.take 8 (.take 9 (.take 10 (.take 11 (.take 12 (.take 13 (.alt 0 (.alt 14 (.take 15 (.take 16 .done)) .stop) .stop)))))))))))))) (by kernel_rfl) (fun wz => Nw w1 wz) kd ?_
      simp -dsimp [go_sem, c2d, c4d, hw1, hw2, hjl, cjd]
      repeat refine ⟨fun wz hz => by simp [hz.cell_some c21 fun h => h, hz.cell_some c41 fun h => h, hz.cell_some cj1 fun h => h], ?_⟩
      have kA : Nw w1 (w1.alloc (.cells #[] 5)).drew := ((Kp.refl _ _).alloc _).drew
      have hB0 : Bs (w1.alloc (.cells #[] 5)).drew (.slice (some ⟨w1.heap.size, 0, none⟩) 0 0) [] w1.heap.size := Bs.nw (Gs.made w1 5 1 0 #[] rfl rfl rfl (by simp [maxLen]) (Nat.le_refl _)) ((Kp.refl _ _).drew)
      refine ⟨kA, ?_⟩
      refine bs_app (l := []) (m := L.ents[j]) hB0 (hrX1.nw kA) (by simp; omega) kA.size ?_
      intro v w2 hB2 hk2
      have n2 : Nw w1 w2 := Nw.fr kA hk2 (Nat.le_refl _)
      refine ⟨n2, ?_⟩
      rw [List.nil_append] at hB2
      rw [e0]
      simp -dsimp [go_sem]
      exact ⟨hk1.nw n2, hB2.mono hk1.size⟩
/-- A ledger of the reference and its disk. -/
structure RS (w : World) (l g : Nat) (p : Nm) (D : Dsk) (L : Led) (F G V : Nat → Prop) : Prop where
  dk : RefD w g D F
  lg : Rl w l g p L G V
  fv : ∀ i, F i → V i
  dj : ∀ i, F i → ¬ G i
section
variable {w w' : World} {l g : Nat} {p : Nm} {D D' : Dsk} {L L' : Led} {F F' G G' V V' S : Nat → Prop}
theorem RS.nw (h : RS w l g p D L F G V) (k : Nw w w') : RS w' l g p D L F G V := ⟨h.dk.nw k, h.lg.nw k, h.fv, h.dj⟩
theorem RS.lF (h : RS w l g p D L F G V) : ¬ F l := fun e => h.dj l e h.lg.gl
/-- The disk has turned. -/
theorem RS.disk (h : RS w l g p D L F G V) (hD : RefD w' g D' F') (hG : Gr F F' w w') (hK : Kp F w w') : RS w' l g p D' L F' G (fun i => V i ∨ F' i) ∧ Gr V (fun i => V i ∨ F' i) w w' := by
  have hGV : Gr V (fun i => V i ∨ F' i) w w' := fun i hi => hi.elim .inl fun e => (hG i e).imp (h.fv i) id
  refine ⟨⟨hD, h.lg.step hK (fun i hi => ⟨h.fv i hi, h.dj i hi⟩) hGV fun i hi => .inl hi, fun i hi => .inr hi, fun i hi hg => ?_⟩, hGV⟩
  rcases hG i hi with e | e
  · exact h.dj i e hg
  · have := h.lg.lt i (h.lg.gv i hg); omega
/-- The ledger's own blocks have turned. -/
theorem RS.own (h : RS w l g p D L F G V) (hL : Rl w' l g p L' G' V') (hG : Gr G G' w w') (hV : ∀ i, V i → V' i) (hK : Kp G w w') : RS w' l g p D L' F G' V' :=
  ⟨h.dk.kp hK fun i hf hg => h.dj i hf hg, hL, fun i hi => hV i (h.fv i hi), fun i hf hg => by
    rcases hG i hg with e | e
    · exact h.dj i hf e
    · have := h.dk.lt i hf; omega⟩
end
/-- An entry more. -/
theorem rl_push {w w2 : World} {l g : Nat} {p : Nm} {L : Led} {G V : Nat → Prop} {B A A2 X : Option Addr} {d c c2 n2 x : Nat} {vs : List Value} {e : List UInt8}
    (hb : Blk w l 74 #[.pointer (some ⟨g, 0, none⟩), str p, i64 L.base, .slice B L.data.length d, .slice A L.ents.length c, .bool L.dead]) (hr : Rd w B (L.data.map u8)) (ho : Ofl B (L.data.map u8) V) (hd : L.data.length ≤ d) (hA : Ow w 22 1 A L.ents.length c vs) (hv : RV w vs L.ents V)
    (hAl : Off A (At l)) (h1 : ∀ k, k = l ∨ blk A k → G k) (h2 : ∀ k, G k → V k) (h3 : ∀ k, V k → k < w.heap.size)
    (hA2 : Ow w2 22 1 A2 n2 c2 (vs ++ [.slice X e.length x])) (hn2 : n2 = L.ents.length + 1) (hK : Kp (blk A) w w2) (hAA : ∀ k, blk A2 k → blk A k ∨ w.heap.size ≤ k) (hrX : Rd w X (e.map u8)) (hoX : Ofl X (e.map u8) V) (hdX : e.length ≤ x) :
    Rl (w2.setCell ⟨l, 4, none⟩ (.slice A2 n2 c2)) l g p { L with ents := L.ents ++ [e] } (fun k => G k ∨ blk A2 k) (fun k => V k ∨ blk A2 k) ∧ Gr G (fun k => G k ∨ blk A2 k) w (w2.setCell ⟨l, 4, none⟩ (.slice A2 n2 c2)) ∧ Gr V (fun k => V k ∨ blk A2 k) w (w2.setCell ⟨l, 4, none⟩ (.slice A2 n2 c2)) ∧ Kp G w (w2.setCell ⟨l, 4, none⟩ (.slice A2 n2 c2)) := by
  subst hn2
  have hGl : G l := h1 _ (.inl rfl)
  have ks : Kp (At l) w2 (w2.setCell ⟨l, 4, none⟩ (.slice A2 (L.ents.length + 1) c2)) := (Kp.refl _ _).setCell_at _ _
  have kG : Kp G w (w2.setCell ⟨l, 4, none⟩ (.slice A2 (L.ents.length + 1) c2)) := (hK.mono fun i _ hi => h1 i (.inr hi)).trans ks fun i _ (e : i = l) => e ▸ hGl
  have hA2l : ∀ k, blk A2 k → k < (w2.setCell ⟨l, 4, none⟩ (.slice A2 (L.ents.length + 1) c2)).heap.size := fun k hk => by
    obtain ⟨a, ha, rfl⟩ := blk_of hk
    exact Nat.lt_of_lt_of_le (hA2.lt a ha) ks.size
  have hlw := h3 l (h2 l hGl)
  have hA2n : Off A2 (At l) := Off.of_blk fun k hk (e : k = l) => by
    rcases hAA k hk with h | h
    · obtain ⟨a, ha, e2⟩ := blk_of h
      exact hAl a ha (by show a.block = l; omega)
    · omega
  have gG : Gr G (fun k => G k ∨ blk A2 k) w (w2.setCell ⟨l, 4, none⟩ (.slice A2 (L.ents.length + 1) c2)) := fun k hk => by
    rcases hk with h | h
    · exact .inl h
    · exact (hAA k h).imp (fun e => h1 k (.inr e)) fun e => ⟨e, hA2l k h⟩
  have gV : Gr V (fun k => V k ∨ blk A2 k) w (w2.setCell ⟨l, 4, none⟩ (.slice A2 (L.ents.length + 1) c2)) := fun k hk => by
    rcases hk with h | h
    · exact .inl h
    · exact (hAA k h).imp (fun e => h2 k (h1 k (.inr e))) fun e => ⟨e, hA2l k h⟩
  have kV : Kp V w (w2.setCell ⟨l, 4, none⟩ (.slice A2 (L.ents.length + 1) c2)) := kG.mono fun i _ hi => h2 i hi
  refine ⟨⟨B, d, A2, c2, _, ?_, hr.kp kV ho, ho.gr hr gV, hd, ?_, (hv.append (RV.one hrX hoX hdX)).gr kV gV, hA2n, fun k hk => ?_, fun k hk => hk.imp (h2 k) id, fun k hk => ?_⟩, gG, gV, kG⟩
  · have := (hb.kp hK fun e => by obtain ⟨a, ha, e2⟩ := blk_of e; exact hAl a ha e2).set 4 (.slice A2 (L.ents.length + 1) c2)
    simpa using this
  · have := hA2.kp ks hA2n
    simpa using this
  · rcases hk with rfl | hk
    · exact .inl hGl
    · exact .inr hk
  · rcases gV k hk with h | h
    · exact Nat.lt_of_lt_of_le (h3 k h) kV.size
    · exact h.2
/-- A ledger's number, its data set. -/
theorem Rl.set2 {w : World} {l g : Nat} {p : Nm} {L : Led} {G V : Nat → Prop} (h : Rl w l g p L G V) (n : Nat) :
    Rl (w.setCell ⟨l, 2, none⟩ (i64 n)) l g p { L with base := n } G V ∧ Kp (At l) w (w.setCell ⟨l, 2, none⟩ (i64 n)) := by
  obtain ⟨B, d, A, c, vs, hb, hr, ho, hd, hA, hv, hAl, h1, h2, h3⟩ := h
  have hVl : V l := h2 _ (h1 _ (.inl rfl))
  have ks : Kp (At l) w (w.setCell ⟨l, 2, none⟩ (i64 n)) := (Kp.refl _ _).setCell_at _ _
  refine ⟨⟨B, d, A, c, vs, ?_, hr.kp ks (fun a ha hx (e : a.block = l) => ho a ha hx (e ▸ hVl)), ho, hd, hA.kp ks hAl, hv.gr (ks.mono fun i _ (e : i = l) => e ▸ hVl) (fun i hi => .inl hi), hAl, h1, h2, fun k hk => Nat.lt_of_lt_of_le (h3 k hk) ks.size⟩, ks⟩
  have := hb.set 2 (i64 n)
  simpa using this
theorem Rl.set3 {w : World} {l g : Nat} {p : Nm} {L : Led} {G V : Nat → Prop} (h : Rl w l g p L G V) {u : Value} {b : List UInt8} {B0 : Nat} (hu : Bs w u b B0) (hB : ∀ k, V k → k < B0) :
    Rl (w.setCell ⟨l, 3, none⟩ u) l g p { L with data := b } G V ∧ Kp (At l) w (w.setCell ⟨l, 3, none⟩ u) := by
  obtain ⟨B, d, A, c, vs, hb, hr, ho, hd, hA, hv, hAl, h1, h2, h3⟩ := h
  obtain ⟨X, x, rfl, hoX, hX⟩ := hu
  have hVl : V l := h2 _ (h1 _ (.inl rfl))
  have ks : Kp (At l) w (w.setCell ⟨l, 3, none⟩ (.slice X b.length x)) := (Kp.refl _ _).setCell_at _ _
  have hXV : Off X V := fun a ha hv => by have := hX a ha; have := hB _ hv; omega
  refine ⟨⟨X, x, A, c, vs, ?_, (hoX.kp ks fun a ha (e : a.block = l) => hXV a ha (e ▸ hVl)).rd, hXV.l _, hoX.2.1, hA.kp ks hAl, hv.gr (ks.mono fun i _ (e : i = l) => e ▸ hVl) (fun i hi => .inl hi), hAl, h1, h2, fun k hk => Nat.lt_of_lt_of_le (h3 k hk) ks.size⟩, ks⟩
  have := hb.set 3 (.slice X b.length x)
  simpa using this
theorem rlhas_spec (s : Nm) (l g : Nat) (D : Dsk) (F : Nat → Prop) (w : World) (h0 : w.cell? ⟨l, 0, none⟩ = some (.pointer (some ⟨g, 0, none⟩))) (h : RefD w g D F) (ok : D.Ok) :
    Cal Tryz.prog 30 #[.pointer (some ⟨l, 0, none⟩), str s] w fun v w' => v = .bool (tLook D.fs s).isSome ∧ Nw w w' := by
  refine enter Tryz.mixed Tryz.func30 rfl (by kernel_rfl) ?_
  simp -dsimp [go_sem, h0]
  refine call (rread_spec s g D F w h ok) ?_
  rintro v w1 ⟨hk1, u, rfl, hB⟩
  cases hx : tLook D.fs s with
  | none =>
    have e : (dRead D s).2 = 7 := by unfold dRead; rw [hx]
    rw [e]
    simp -dsimp [go_sem]
    exact hk1
  | some y =>
    have e : (dRead D s).2 = 0 := by unfold dRead; rw [hx]
    rw [e]
    simp -dsimp [go_sem]
    exact hk1
end Go.Proofs.YthonmjgagblogaaGreat

namespace Go.Proofs.YthonmjgagblogaaGreat
set_option linter.unusedSimpArgs false
set_option linter.unusedVariables false
set_option maxRecDepth 100000
set_option maxHeartbeats 1000000
open Go.Vc Go.RowKit

theorem rv_less {w : World} {vs : List Value} {ps : List (List UInt8)} {S W : Nat → Prop} (h : RV w vs ps S) (hW : ∀ i, W i → S i) : RV w vs ps W := ⟨h.1, fun i hi => by
  obtain ⟨B, d, h1, h2, h3, h4⟩ := h.2 i hi
  exact ⟨B, d, h1, h2, fun a ha hx hs => h3 a ha hx (hW _ hs), h4⟩⟩
theorem Rl.less {w : World} {l g : Nat} {p : Nm} {L : Led} {G V W : Nat → Prop} (h : Rl w l g p L G V) (hW : ∀ i, W i → V i) (hG : ∀ i, G i → W i) : Rl w l g p L G W := by
  obtain ⟨B, d, A, c, vs, hb, hr, ho, hd, hA, hv, hAl, h1, h2, h3⟩ := h
  exact ⟨B, d, A, c, vs, hb, hr, fun a ha hx hs => ho a ha hx (hW _ hs), hd, hA, rv_less hv hW, hAl, h1, hG, fun k hk => h3 k (hW k hk)⟩
theorem kLoad_kinds (D : Dsk) (s : Nm) : (tLook D.fs s = none ∧ kLoad D s = ([], 7)) ∨ ((tLook D.fs s).isSome = true ∧ ((kLoad D s).2 = 0 ∨ (kLoad D s).2 = 3)) := by
  cases hx : tLook D.fs s with
  | none =>
    have e : dRead D s = ([], 7) := by unfold dRead; rw [hx]
    refine .inl ⟨rfl, ?_⟩
    unfold kLoad
    rw [e]
    rfl
  | some y =>
    have e : dRead D s = (y.b, 0) := by unfold dRead; rw [hx]
    refine .inr ⟨rfl, ?_⟩
    unfold kLoad
    rw [e, if_neg (fun h => h rfl)]
    split
    · exact .inr rfl
    · exact .inl rfl
theorem rimage_spec (l g : Nat) (p : Nm) (D : Dsk) (F G V : Nat → Prop) (w : World) (h : RS w l g p D ⟨0, [], [], false⟩ F G V) (ok : D.Ok) (hp : p.length ≤ 20) :
    Cal Tryz.prog 32 #[.pointer (some ⟨l, 0, none⟩)] w fun v w' => v = i64 (imgL D p).2.2 ∧ Rl w' l g p ⟨(imgL D p).1, (imgL D p).2.1, [], false⟩ G V ∧ Kp (At l) w w' := by
  have c0 := h.lg.c0
  have c1 := h.lg.c1
  have e0 : imgL D p = if (kLoad D (imgN p)).2 = 7 then (0, [], 0) else if (kLoad D (imgN p)).2 ≠ 0 then (0, [], (kLoad D (imgN p)).2) else
    ((numRow (kLoad D (imgN p)).1).2.1, (numRow (kLoad D (imgN p)).1).2.2, if (numRow (kLoad D (imgN p)).1).1 = false ∨ 1099511627776 < (numRow (kLoad D (imgN p)).1).2.1 then 3 else 0) := rfl
  have hlen := kLoad_len ok (imgN p)
  have hn : ¬ 9223372036854775807 < p.length + 4 := by omega
  have hcat : (⟨p.toArray⟩ : ByteArray) ++ ⟨#[45, 105, 109, 103]⟩ = ⟨(imgN p).toArray⟩ := cat_str p [45, 105, 109, 103]
  have hkk := kLoad_kinds D (imgN p)
  refine enter Tryz.mixed Tryz.func32 rfl (by kernel_rfl) ?_
  generalize imgN p = im at *
  simp -dsimp [go_sem, c1, hn, hcat]
  refine call (rlhas_spec im l g D F w c0 h.dk ok) ?_
  rintro v w1 ⟨rfl, hk1⟩
  have h1 := h.nw hk1
  rcases hkk with ⟨hx, hk⟩ | ⟨hx, hk⟩
  · rw [hx]
    rw [hk, if_pos rfl] at e0
    rw [e0]
    simp -dsimp [go_sem]
    exact ⟨h1.lg, Nw.kp hk1 _⟩
  rw [hx]
  have c01 := h1.lg.c0
  have c11 := h1.lg.c1
  have kd : Nw w1 w1.drew := (Kp.refl _ _).drew
  have c0d := kd.cell_some c01 fun h => h
  have c1d := kd.cell_some c11 fun h => h
  simp -dsimp [go_sem]
  refine draw (.take 0 (.take 1 (.take 2 (.take 3 (.take 4 (.take 5 (.take 6 (.take 7 (.take 8 (.alt 9 (.take 10 (.take 11 (.take 12 (.take 13 (.take 14 .done))))) .stop)))))))))) (by kernel_rfl) (fun wz => Nw w1 wz) kd ?_
  simp -dsimp [go_sem, c0d, c1d, hn, hcat]
  repeat refine ⟨fun wz hz => by simp [hz.cell_some c01 fun h => h, hz.cell_some c11 fun h => h], ?_⟩
  refine call (rkload_spec im g D F _ (h1.dk.nw kd) ok) ?_
  rintro v w2 ⟨hk2, u, rfl, hB⟩
  have n12 := kd.nw hk2
  have n2 := hk1.nw n12
  refine ⟨n12, ?_⟩
  obtain ⟨R, hR⟩ : ∃ R, R = kLoad D im := ⟨_, rfl⟩
  rw [← hR] at e0 hlen hB hk ⊢
  obtain ⟨b, e⟩ := R
  simp only at e0 hlen hB hk ⊢
  obtain ⟨X, x, rfl, hoX, hX⟩ := id hB
  have h2 := h.nw n2
  rcases hk with rfl | rfl
  · rw [if_neg (by decide), if_neg (by decide)] at e0
    simp -dsimp [go_sem]
    have ka : Nw w2 (w2.alloc (.cells #[.slice X b.length x, .bool false] 114)) := (Kp.refl _ _).alloc _
    have hRd := RefR.new hoX.rd hoX.2.1
    have hrs : w2.heap.size < (w2.alloc (.cells #[.slice X b.length x, .bool false] 114)).heap.size := by simp
    obtain ⟨r, hr⟩ : ∃ r, r = w2.heap.size := ⟨_, rfl⟩
    rw [← hr] at hRd hrs ⊢
    have n3 := n2.nw ka
    have hFR : ∀ k, (k = r ∨ (b ≠ [] ∧ blk X k)) → w.heap.size ≤ k := fun k hk => by
      rcases hk with rfl | ⟨_, hk⟩
      · have := n2.size; omega
      · obtain ⟨a, ha, rfl⟩ := blk_of hk
        have := hX a ha
        have := (hk1.nw kd).size
        omega
    have hL3 : Rl _ l g p _ G (fun k => V k ∨ k = r) := h2.lg.step ka (fun _ h => h.elim) (fun k hk => hk.imp id fun e => by subst e; exact ⟨by omega, hrs⟩) fun k hk => .inl hk
    generalize w2.alloc (.cells #[.slice X b.length x, .bool false] 114) = w3 at *
    have hGw : ∀ k, G k → k < w.heap.size := fun k hk => h.lg.lt k (h.lg.gv k hk)
    have hrw : w.heap.size ≤ r := hFR r (.inl rfl)
    have hSr : ∀ i, i = r → (V i ∨ i = r) ∧ ¬ G i := fun i e => ⟨.inr e, fun hg => by have := hGw i hg; omega⟩
    refine call (refNumT_spec r b false _ w3 hRd (by omega)) ?_
    rintro v w4 ⟨rfl, hRd4, hk4⟩
    have n4 : Nw w w4 := n3.at_ hk4 fun k (e : k = r) => by omega
    have hL4 := hL3.kp hk4 hSr
    obtain ⟨B0, d0, A0, c00, vs0, hb4, _⟩ := id hL4
    have q2 := hb4.cell 2
    have f2 := hb4.frozen 2
    have hlw : l < w.heap.size := hGw l h.lg.gl
    have hnl := numL_len b false
    have hbl := bytL_len (numL b false).2.1 (numL b false).2.2
    have en : numRow b = (!(bytL (numL b false).2.1 (numL b false).2.2).2.2 && (bytL (numL b false).2.1 (numL b false).2.2).2.1.isEmpty, (numL b false).1, (bytL (numL b false).2.1 (numL b false).2.2).1) := rfl
    rw [en] at e0
    simp only at e0
    obtain ⟨hL5, hk5⟩ := hL4.set2 (numL b false).1
    have hRd5 := hRd4.kp_ hk5 fun k hk (e : k = l) => by have := hFR k hk; omega
    obtain ⟨n, hn'⟩ : ∃ n, n = (numL b false).1 := ⟨_, rfl⟩
    rw [← hn'] at hL5 hk5 hRd5 e0 ⊢
    simp -dsimp [go_sem, q2, f2]
    generalize w4.setCell ⟨l, 2, none⟩ (i64 n) = w5 at *
    refine call (refBytesT_spec r _ _ _ w5 hRd5 (by omega)) ?_
    rintro v w6 ⟨hB6, hRd6, hk6⟩
    have hL6 := hL5.kp hk6 hSr
    have hV6 : ∀ k, (V k ∨ k = r) → k < w5.heap.size := hL5.lt
    obtain ⟨B1, d1, A1, c11', vs1, hb6, _⟩ := id hL6
    have q3 := hb6.cell 3
    have f3 := hb6.frozen 3
    obtain ⟨hL7, hk7⟩ := hL6.set3 hB6 hV6
    have hRd7 := hRd6.kp_ hk7 fun k hk (e : k = l) => by have := hFR k hk; omega
    obtain ⟨Y, y, rfl, hoY, hY⟩ := id hB6
    have k57 : Kp (fun k => k = l ∨ k = r) w4 _ := ((hk5.mono fun k _ e => .inl e).trans hk6 fun k _ e => .inr e).trans hk7 fun k _ e => .inl e
    have n7 : Kp (At l) w _ := (Nw.kp n4 (At l)).trans k57 fun k hk e => e.elim id fun e => by omega
    have hl2 := hL7.c2
    have hres := hL7.less (W := V) (fun i hi => .inl hi) h.lg.gv
    simp only at hl2
    generalize (bytL (numL b false).2.1 (numL b false).2.2).2.2 = bad at *
    generalize (bytL (numL b false).2.1 (numL b false).2.2).2.1 = rest at *
    generalize (bytL (numL b false).2.1 (numL b false).2.2).1 = data at *
    obtain ⟨yl, hyl⟩ : ∃ yl, yl = data.length := ⟨_, rfl⟩
    rw [← hyl] at hres n7 hk7 hRd7 hl2 ⊢
    simp -dsimp [go_sem, q3, f3]
    generalize w6.setCell ⟨l, 3, none⟩ (.slice Y yl y) = w7 at *
    refine call (refWhole_spec r rest bad _ w7 hRd7) ?_
    rintro u w8 ⟨rfl, rfl⟩
    cases hwh : (!bad && rest.isEmpty) with
    | false =>
      rw [hwh, if_pos (.inl rfl)] at e0
      rw [e0]
      simp -dsimp [go_sem]
      exact ⟨hres, n7⟩
    | true =>
      rw [hwh] at e0
      by_cases hbig : 1099511627776 < n
      · rw [if_pos (.inr hbig)] at e0
        have hbig' : (1099511627776 : Int) < (n : Int) := by omega
        rw [e0]
        simp -dsimp [go_sem, hl2, hbig, hbig']
        exact ⟨hres, n7⟩
      · rw [if_neg (by simp; omega)] at e0
        have hbig' : ¬ (1099511627776 : Int) < (n : Int) := by omega
        rw [e0]
        simp -dsimp [go_sem, hl2, hbig, hbig']
        exact ⟨hres, n7⟩
  · rw [if_neg (by decide), if_pos (by decide)] at e0
    rw [e0]
    simp -dsimp [go_sem]
    exact ⟨h2.lg, Nw.kp n2 _⟩
end Go.Proofs.YthonmjgagblogaaGreat

namespace Go.Proofs.YthonmjgagblogaaGreat
set_option linter.unusedSimpArgs false
set_option linter.unusedVariables false
set_option maxRecDepth 100000
set_option maxHeartbeats 2000000
open Go.Vc Go.RowKit

/-- What taking entries in comes to. -/
def EntR (w w' : World) (v : Value) (l g : Nat) (p : Nm) (L : Led) (good : Nat) (G V : Nat → Prop) (o : Option (Int × List (List UInt8))) : Prop :=
  (o = none ∧ v = .tuple #[i64 3, i64 0]) ∨ ∃ q, o = some q ∧ v = .tuple #[i64 0, i64 good] ∧ ({ L with ents := q.2 } : Led).Ok ∧ ∃ G' V', Rl w' l g p { L with ents := q.2 } G' V' ∧ Gr G G' w w' ∧ Gr V V' w w' ∧ ∀ i, V i → V' i
theorem rentries_spec (l g : Nat) (p : Nm) (D : Dsk) (L : Led) (F G V : Nat → Prop) (b : List UInt8) (X : Option Addr) (x : Nat) (w : World) (h : RS w l g p D L F G V) (ok : L.Ok) (he : L.ents = []) (hrX : Rd w X (b.map u8)) (hx : b.length ≤ x) (hb : b.length ≤ 1073741824) :
    Cal Tryz.prog 34 #[.pointer (some ⟨l, 0, none⟩), .slice X b.length x] w fun v w' => EntR w w' v l g p L (scanL (b.length + 1) b).2 G V (takesP L.base (-1) [] (scanL (b.length + 1) b).1) ∧ Kp G w w' := by
  refine enter Tryz.mixed Tryz.func34 rfl (by kernel_rfl) ?_
  simp -dsimp [go_sem]
  refine call (refScan_spec b X x w hrX hx (by omega)) ?_
  rintro v w1 ⟨hk1, u, rfl, hRs⟩
  have hsl := scanL_len' (b.length + 1) b
  generalize (scanL (b.length + 1) b).1 = rows at *
  generalize (scanL (b.length + 1) b).2 = good at *
  obtain ⟨A5, c5, rfl, hbr, hc5⟩ := hRs.brs2
  have hGw : ∀ k, G k → k < w.heap.size := fun k hk => h.lg.lt k (h.lg.gv k hk)
  have h1 := h.nw hk1
  simp -dsimp [go_sem]
  refine loop [4, 5, 8, 9, 10, 11, 12, 18, 19, 20, 21, 22, 23, 24, 25, 26, 27, 28, 29, 30, 31, 32, 33, 34, 35, 36, 37, 38, 39, 40, 41, 42, 43, 44, 45, 46, 47, 48, 49, 50, 51, 52, 53, 54, 55, 56, 57, 58, 59, 60, 61, 62, 63, 64, 65, 66, 67, 68, 69, 70, 71, 72, 73, 74, 75, 76] (by kernel_rfl)
    (fun f w' => Box2 (fun a u w' => ∃ (i : Nat) (last l8 : Int) (es : List (List UInt8)) (G1 V1 : Nat → Prop), a = i64 i ∧ u = i64 l8 ∧ i ≤ rows.length ∧ takesP L.base (-1) [] rows = takesP L.base last es (rows.drop i) ∧ Rl w' l g p { L with ents := es } G1 V1 ∧
      Gr G G1 w1 w' ∧ Gr V V1 w1 w' ∧ (∀ k, V k → V1 k) ∧ Kp G w1 w' ∧ ((i = 0 ∧ last = -1 ∧ l8 = 0) ∨ (0 < i ∧ last = l8 ∧ 1 ≤ last)) ∧ last ≤ 1099511627776 ∧ Led.Ok { L with ents := es }) (f 9) (f 8) w') (fun f _ => rows.length - (intOf (f 9)).toNat)
    ⟨0, -1, 0, [], G, V, rfl, rfl, Nat.zero_le _, rfl, by rw [← he]; exact h1.lg, fun k hk => .inl hk, fun k hk => .inl hk, fun k hk => hk, Kp.refl _ _, .inl ⟨rfl, rfl, rfl⟩, by omega, by rw [← he]; exact ok⟩ ?_
  rintro f w7 ⟨i, last, l8, es, G1, V1, f9, f8, hi, htk, lg7, gG, gV, hVV, hK7, hla, hl2, ok7⟩
  have kw7 : Kp G w w7 := (Nw.kp hk1 G).trans hK7 fun _ _ h => h
  by_cases hlt : i < rows.length
  · have hi1 : IntKind.i64.wrap ((i : Int) + 1) = ((i + 1 : Nat) : Int) := w64 (by omega) (by omega)
    obtain ⟨i1, hi1'⟩ : ∃ i1, i1 = i + 1 := ⟨_, rfl⟩
    have hbr7 := hbr.kp (hK7.mono fun k _ hk => .inl (hGw k hk))
    obtain ⟨vs, hvl, hrd7, hoA, hi'⟩ := hbr7
    obtain ⟨Y, y, hv, hrY, hoY, hy⟩ := hi' i hlt
    obtain ⟨bb, o, rfl, hcell⟩ := hrd7 i _ hv
    have hrl := hsl.2 _ (List.getElem_mem hlt)
    rw [List.drop_eq_getElem_cons hlt, takesP_cons] at htk
    rw [← hi1'] at hi1 htk
    generalize rows[i] = rec at *
    have htp := @takeP_some L.base last es rec
    have e0 : takeP L.base last es rec = if (numRow rec).1 = false ∨ (numRow rec).2.1 < 1 ∨ 1099511627776 < (numRow rec).2.1 ∨ (0 ≤ last ∧ ((numRow rec).2.1 : Int) ≠ last + 1) then none
      else if (numRow rec).2.1 ≤ L.base then some (((numRow rec).2.1 : Int), es) else if (numRow rec).2.1 ≠ L.base + es.length + 1 then none else some (((numRow rec).2.1 : Int), es ++ [(numRow rec).2.2]) := rfl
    have en : numRow rec = (!(bytL (numL rec false).2.1 (numL rec false).2.2).2.2 && (bytL (numL rec false).2.1 (numL rec false).2.2).2.1.isEmpty, (numL rec false).1, (bytL (numL rec false).2.1 (numL rec false).2.2).1) := rfl
    rw [en] at e0
    simp only at e0
    have hnle := numL_le rec false
    have hnl := numL_len rec false
    have hbl := bytL_len (numL rec false).2.1 (numL rec false).2.2
    simp -dsimp [go_sem, f9, hlt, hcell]
    simp [go_sem]
    have ka : Nw w7 (w7.alloc (.cells #[.slice Y rec.length y, .bool false] 114)) := (Kp.refl _ _).alloc _
    have hRd := RefR.new hrY hy
    have hrs : w7.heap.size < (w7.alloc (.cells #[.slice Y rec.length y, .bool false] 114)).heap.size := by simp
    obtain ⟨r, hr⟩ : ∃ r, r = w7.heap.size := ⟨_, rfl⟩
    rw [← hr] at hRd hrs ⊢
    have hL8 : Rl _ l g p _ G1 (fun k => V1 k ∨ k = r) := lg7.step ka (fun _ h => h.elim) (fun k hk => hk.imp id fun e => by subst e; exact ⟨by omega, hrs⟩) fun k hk => .inl hk
    have k78 := hK7.nw ka
    generalize w7.alloc (.cells #[.slice Y rec.length y, .bool false] 114) = w8 at *
    have hG1w : ∀ k, G1 k → k < w7.heap.size := fun k hk => lg7.lt k (lg7.gv k hk)
    have hSr : ∀ i, i = r → (V1 i ∨ i = r) ∧ ¬ G1 i := fun i e => ⟨.inr e, fun hg => by have := hG1w i hg; omega⟩
    refine call (refNumT_spec r rec false _ w8 hRd (by omega)) ?_
    rintro v w9 ⟨rfl, hRd9, hk9⟩
    have hL9 := hL8.kp hk9 hSr
    have hwr : w1.heap.size ≤ r := by have := hK7.size; omega
    have k9 : Kp G w1 w9 := k78.trans hk9 fun k hk (e : k = r) => by omega
    simp -dsimp [go_sem]
    refine call (refBytesT_spec r _ _ _ w9 hRd9 (by omega)) ?_
    rintro v w10 ⟨hB10, hRd10, hk10⟩
    have hL10 := hL9.kp hk10 hSr
    have hV9 := hL9.lt
    have k10 : Kp G w1 w10 := k9.trans hk10 fun k hk (e : k = r) => by omega
    obtain ⟨Z, z, rfl, hoZ, hZ⟩ := id hB10
    generalize (bytL (numL rec false).2.1 (numL rec false).2.2).2.2 = bad at *
    generalize (bytL (numL rec false).2.1 (numL rec false).2.2).2.1 = rest at *
    generalize (bytL (numL rec false).2.1 (numL rec false).2.2).1 = ent at *
    generalize (numL rec false).1 = n at *
    simp -dsimp [go_sem]
    refine call (refWhole_spec r rest bad _ w10 hRd10) ?_
    rintro u w11 ⟨rfl, rfl⟩
    have kw10 : Kp G w w10 := (Nw.kp hk1 G).trans k10 fun _ _ h => h
    have hnone : takeP L.base last es rec = none → takesP L.base (-1) [] rows = none := fun e => by rw [htk, e]
    have hsome : ∀ q, takeP L.base last es rec = some q → takesP L.base (-1) [] rows = takesP L.base q.1 q.2 (rows.drop i1) := fun q e => by rw [htk, e]
    cases hwh : (!bad && rest.isEmpty) with
    | false =>
      rw [hwh, if_pos (.inl rfl)] at e0
      have e0 := hnone e0
      simp -dsimp [go_sem]
      exact ⟨.inl ⟨e0, rfl⟩, kw10⟩
    | true =>
      rw [hwh] at e0
      have hw1 : IntKind.i64.wrap (l8 + 1) = l8 + 1 := w64 (by omega) (by omega)
      by_cases h3 : 0 < i ∧ (n : Int) ≠ l8 + 1
      · rw [if_pos (.inr (.inr (.inr ⟨by omega, by omega⟩)))] at e0
        have e0 := hnone e0
        have h3' : ((n : Int) != l8 + 1) = true := by simpa using h3.2
        simp -dsimp [go_sem, f9, f8, h3.1, hw1, h3']
        exact ⟨.inl ⟨e0, rfl⟩, kw10⟩
      by_cases hi0 : 0 < i
      · have h3b : ((n : Int) != l8 + 1) = false := by simp; omega
        have hs7 : w7.heap.size ≤ w10.heap.size := by have := hk9.size; have := hk10.size; omega
        have hs8 : r < w10.heap.size := by have := hk9.size; have := hk10.size; omega
        have gG' : Gr G G1 w1 w10 := Gr.wide gG (Nat.le_refl _) hs7
        have gV' : Gr V (fun k => V1 k ∨ k = r) w1 w10 := fun k hk => hk.elim (fun h => (gV k h).imp id fun e => ⟨e.1, by omega⟩) fun e => .inr ⟨by omega, by omega⟩
        by_cases hs1 : n < 1
        · rw [if_pos (.inr (.inl hs1))] at e0
          have e0 := hnone e0
          have hs1' : (n : Int) < 1 := by omega
          simp -dsimp [go_sem, f9, f8, hw1, hi0, h3b, hs1, hs1']
          exact ⟨.inl ⟨e0, rfl⟩, kw10⟩
        have hs1' : ¬ (n : Int) < 1 := by omega
        by_cases hs2 : 1099511627776 < n
        · rw [if_pos (.inr (.inr (.inl hs2)))] at e0
          have e0 := hnone e0
          have hs2' : (1099511627776 : Int) < (n : Int) := by omega
          simp -dsimp [go_sem, f9, f8, hw1, hi0, h3b, hs1, hs1', hs2, hs2']
          exact ⟨.inl ⟨e0, rfl⟩, kw10⟩
        have hs2' : ¬ (1099511627776 : Int) < (n : Int) := by omega
        rw [if_neg (by simp; omega)] at e0
        have hl2c : w10.cell? ⟨l, 2, none⟩ = some (i64 L.base) := hL10.c2
        by_cases h5 : n ≤ L.base
        · rw [if_pos h5] at e0
          have e0 := hsome _ e0
          have h5' : (n : Int) ≤ (L.base : Int) := by omega
          simp -dsimp [go_sem, f9, f8, hw1, hi0, h3b, hs1, hs1', hs2, hs2', hl2c, h5, h5', hi1]
          exact ⟨⟨i1, n, n, es, G1, fun k => V1 k ∨ k = r, rfl, rfl, by omega, e0, hL10, gG', gV', fun k hk => .inl (hVV k hk), k10, .inr ⟨by omega, rfl, by omega⟩, by omega, ok7⟩, by simp [intOf]; omega⟩
        have h5' : ¬ (n : Int) ≤ (L.base : Int) := by omega
        rw [if_neg h5] at e0
        simp -dsimp [go_sem, f9, f8, hw1, hi0, h3b, hs1, hs1', hs2, hs2', hl2c, h5, h5']
        refine call (rlast_spec l g p { L with ents := es } G1 _ w10 hL10 ok7) ?_
        rintro v w12 ⟨rfl, hk12⟩
        have hll := ok7.last
        have hlast : Led.last { L with ents := es } = L.base + es.length := rfl
        rw [hlast]
        simp only at hll
        have hw2 : IntKind.i64.wrap (((L.base + es.length : Nat) : Int) + 1) = ((L.base + es.length + 1 : Nat) : Int) := by rw [w64 (by omega) (by omega)]; omega
        obtain ⟨m0, hm0⟩ : ∃ m0, m0 = L.base + es.length := ⟨_, rfl⟩
        rw [← hm0] at hw2 ⊢
        obtain ⟨m, hm⟩ : ∃ m, m = m0 + 1 := ⟨_, rfl⟩
        rw [← hm] at hw2
        by_cases h6 : n = m
        · subst h6
          have h6b : ((n : Int) != (n : Int)) = false := by simp
          rw [if_neg (by omega)] at e0
          have hL12 := hL10.nw hk12
          have k12 := k10.nw hk12
          obtain ⟨B, d, A, c, vs', hb12, hr12, ho12, hd12, hA12, hv12, hAl, g1, g2, g3⟩ := id hL12
          simp only at hb12 hr12 ho12 hd12 hA12 hv12
          have l4 : w12.cell? ⟨l, 4, none⟩ = some (.slice A es.length c) := hb12.cell 4
          have hlA : ¬ blk A l := fun e => by obtain ⟨a, ha, e2⟩ := blk_of e; exact hAl a ha e2
          have hZV : ∀ k, blk Z k → w9.heap.size ≤ k := fun k hk => by
            obtain ⟨a, ha, rfl⟩ := blk_of hk
            exact hZ a ha
          have hZ12 : Rd w12 Z (ent.map u8) := (hoZ.nw hk12).rd
          have kb : Nw w12 (w12.alloc (.cells #[.slice Z ent.length z] 22)) := (Kp.refl _ _).alloc _
          simp -dsimp [go_sem, hw2, h6b, l4]
          refine app Tryz.Srows (hA12.nw kb) (ys := [.slice Z ent.length z]) (Rd.fresh (w := w12) rfl rfl) (m := 1) rfl (by simp [Value.oneCell']) (by omega) (by omega) ?_
          intro A13 c13 w13 ho13 hk13 hAA13
          have hk123 : Kp (blk A) w12 w13 := (Nw.kp kb _).trans hk13 fun _ _ h => h
          have hA13 : ∀ k, blk A13 k → blk A k ∨ w12.heap.size ≤ k := fun k hk => by
            rcases hAA13 with rfl | ⟨rfl, _⟩
            · exact .inl hk
            · right
              rw [show k = _ from hk]
              exact kb.size
          obtain ⟨lg14, gG14, gV14, kG14⟩ := rl_push (L := { L with ents := es }) (e := ent) hb12 hr12 ho12 hd12 hA12 hv12 hAl g1 g2 g3 ho13 rfl hk123 hA13 hZ12 (fun a ha _ hv => by have := hZV a.block (by rw [ha]; rfl); have := hV9 _ hv; omega) hoZ.2.1
          obtain ⟨hq1, hq2, hq3, hq4⟩ := htp e0 ok7.last
          have e0 := hsome _ e0
          simp only at hq3 hq4 lg14
          have hs12 : w10.heap.size ≤ w12.heap.size := hk12.size
          have ok14 : Led.Ok { L with ents := es ++ [ent] } := ⟨hq3, ok.data, fun e he => (hq4 e he).elim (fun h => ok7.ents e h) fun h => by omega⟩
          have gG12 : Gr G G1 w1 w12 := Gr.wide gG' (Nat.le_refl _) hs12
          have gV12 : Gr V (fun k => V1 k ∨ k = r) w1 w12 := Gr.wide gV' (Nat.le_refl _) hs12
          have gGf := Gr.trans gG12 gG14 k12.size kG14.size
          have gVf := Gr.trans gV12 gV14 k12.size kG14.size
          have kf : Kp G w1 _ := k12.trans kG14 fun k hk h => (gG12 k h).elim id fun e => by omega
          obtain ⟨n13, hn13⟩ : ∃ n13, n13 = es.length + 1 := ⟨_, rfl⟩
          rw [← hn13] at lg14 gGf gVf kf ⊢
          have l413 := hk123.cell_some l4 hlA
          have lf13 := (hb12.kp hk123 hlA).frozen 4
          simp -dsimp [go_sem, l413, lf13, f9, hi1]
          exact ⟨⟨i1, n, n, es ++ [ent], _, _, rfl, rfl, by omega, e0, lg14, gGf, gVf, fun k hk => .inl (.inl (hVV k hk)), kf, .inr ⟨by omega, rfl, by omega⟩, by omega, ok14⟩, by simp [intOf]; omega⟩
        · have h6b : ((n : Int) != (m : Int)) = true := by simp; omega
          rw [if_pos (by omega)] at e0
          have e0 := hnone e0
          simp -dsimp [go_sem, hw2, h6b]
          exact ⟨.inl ⟨e0, rfl⟩, kw10.nw hk12⟩
      · have hs7 : w7.heap.size ≤ w10.heap.size := by have := hk9.size; have := hk10.size; omega
        have hs8 : r < w10.heap.size := by have := hk9.size; have := hk10.size; omega
        have gG' : Gr G G1 w1 w10 := Gr.wide gG (Nat.le_refl _) hs7
        have gV' : Gr V (fun k => V1 k ∨ k = r) w1 w10 := fun k hk => hk.elim (fun h => (gV k h).imp id fun e => ⟨e.1, by omega⟩) fun e => .inr ⟨by omega, by omega⟩
        by_cases hs1 : n < 1
        · rw [if_pos (.inr (.inl hs1))] at e0
          have e0 := hnone e0
          have hs1' : (n : Int) < 1 := by omega
          simp -dsimp [go_sem, f9, f8, hw1, hi0, hs1, hs1']
          exact ⟨.inl ⟨e0, rfl⟩, kw10⟩
        have hs1' : ¬ (n : Int) < 1 := by omega
        by_cases hs2 : 1099511627776 < n
        · rw [if_pos (.inr (.inr (.inl hs2)))] at e0
          have e0 := hnone e0
          have hs2' : (1099511627776 : Int) < (n : Int) := by omega
          simp -dsimp [go_sem, f9, f8, hw1, hi0, hs1, hs1', hs2, hs2']
          exact ⟨.inl ⟨e0, rfl⟩, kw10⟩
        have hs2' : ¬ (1099511627776 : Int) < (n : Int) := by omega
        rw [if_neg (by simp; omega)] at e0
        have hl2c : w10.cell? ⟨l, 2, none⟩ = some (i64 L.base) := hL10.c2
        by_cases h5 : n ≤ L.base
        · rw [if_pos h5] at e0
          have e0 := hsome _ e0
          have h5' : (n : Int) ≤ (L.base : Int) := by omega
          simp -dsimp [go_sem, f9, f8, hw1, hi0, hs1, hs1', hs2, hs2', hl2c, h5, h5', hi1]
          exact ⟨⟨i1, n, n, es, G1, fun k => V1 k ∨ k = r, rfl, rfl, by omega, e0, hL10, gG', gV', fun k hk => .inl (hVV k hk), k10, .inr ⟨by omega, rfl, by omega⟩, by omega, ok7⟩, by simp [intOf]; omega⟩
        have h5' : ¬ (n : Int) ≤ (L.base : Int) := by omega
        rw [if_neg h5] at e0
        simp -dsimp [go_sem, f9, f8, hw1, hi0, hs1, hs1', hs2, hs2', hl2c, h5, h5']
        refine call (rlast_spec l g p { L with ents := es } G1 _ w10 hL10 ok7) ?_
        rintro v w12 ⟨rfl, hk12⟩
        have hll := ok7.last
        have hlast : Led.last { L with ents := es } = L.base + es.length := rfl
        rw [hlast]
        simp only at hll
        have hw2 : IntKind.i64.wrap (((L.base + es.length : Nat) : Int) + 1) = ((L.base + es.length + 1 : Nat) : Int) := by rw [w64 (by omega) (by omega)]; omega
        obtain ⟨m0, hm0⟩ : ∃ m0, m0 = L.base + es.length := ⟨_, rfl⟩
        rw [← hm0] at hw2 ⊢
        obtain ⟨m, hm⟩ : ∃ m, m = m0 + 1 := ⟨_, rfl⟩
        rw [← hm] at hw2
        by_cases h6 : n = m
        · subst h6
          have h6b : ((n : Int) != (n : Int)) = false := by simp
          rw [if_neg (by omega)] at e0
          have hL12 := hL10.nw hk12
          have k12 := k10.nw hk12
          obtain ⟨B, d, A, c, vs', hb12, hr12, ho12, hd12, hA12, hv12, hAl, g1, g2, g3⟩ := id hL12
          simp only at hb12 hr12 ho12 hd12 hA12 hv12
          have l4 : w12.cell? ⟨l, 4, none⟩ = some (.slice A es.length c) := hb12.cell 4
          have hlA : ¬ blk A l := fun e => by obtain ⟨a, ha, e2⟩ := blk_of e; exact hAl a ha e2
          have hZV : ∀ k, blk Z k → w9.heap.size ≤ k := fun k hk => by
            obtain ⟨a, ha, rfl⟩ := blk_of hk
            exact hZ a ha
          have hZ12 : Rd w12 Z (ent.map u8) := (hoZ.nw hk12).rd
          have kb : Nw w12 (w12.alloc (.cells #[.slice Z ent.length z] 22)) := (Kp.refl _ _).alloc _
          simp -dsimp [go_sem, hw2, h6b, l4]
          refine app Tryz.Srows (hA12.nw kb) (ys := [.slice Z ent.length z]) (Rd.fresh (w := w12) rfl rfl) (m := 1) rfl (by simp [Value.oneCell']) (by omega) (by omega) ?_
          intro A13 c13 w13 ho13 hk13 hAA13
          have hk123 : Kp (blk A) w12 w13 := (Nw.kp kb _).trans hk13 fun _ _ h => h
          have hA13 : ∀ k, blk A13 k → blk A k ∨ w12.heap.size ≤ k := fun k hk => by
            rcases hAA13 with rfl | ⟨rfl, _⟩
            · exact .inl hk
            · right
              rw [show k = _ from hk]
              exact kb.size
          obtain ⟨lg14, gG14, gV14, kG14⟩ := rl_push (L := { L with ents := es }) (e := ent) hb12 hr12 ho12 hd12 hA12 hv12 hAl g1 g2 g3 ho13 rfl hk123 hA13 hZ12 (fun a ha _ hv => by have := hZV a.block (by rw [ha]; rfl); have := hV9 _ hv; omega) hoZ.2.1
          obtain ⟨hq1, hq2, hq3, hq4⟩ := htp e0 ok7.last
          have e0 := hsome _ e0
          simp only at hq3 hq4 lg14
          have hs12 : w10.heap.size ≤ w12.heap.size := hk12.size
          have ok14 : Led.Ok { L with ents := es ++ [ent] } := ⟨hq3, ok.data, fun e he => (hq4 e he).elim (fun h => ok7.ents e h) fun h => by omega⟩
          have gG12 : Gr G G1 w1 w12 := Gr.wide gG' (Nat.le_refl _) hs12
          have gV12 : Gr V (fun k => V1 k ∨ k = r) w1 w12 := Gr.wide gV' (Nat.le_refl _) hs12
          have gGf := Gr.trans gG12 gG14 k12.size kG14.size
          have gVf := Gr.trans gV12 gV14 k12.size kG14.size
          have kf : Kp G w1 _ := k12.trans kG14 fun k hk h => (gG12 k h).elim id fun e => by omega
          obtain ⟨n13, hn13⟩ : ∃ n13, n13 = es.length + 1 := ⟨_, rfl⟩
          rw [← hn13] at lg14 gGf gVf kf ⊢
          have l413 := hk123.cell_some l4 hlA
          have lf13 := (hb12.kp hk123 hlA).frozen 4
          simp -dsimp [go_sem, l413, lf13, f9, hi1]
          exact ⟨⟨i1, n, n, es ++ [ent], _, _, rfl, rfl, by omega, e0, lg14, gGf, gVf, fun k hk => .inl (.inl (hVV k hk)), kf, .inr ⟨by omega, rfl, by omega⟩, by omega, ok14⟩, by simp [intOf]; omega⟩
        · have h6b : ((n : Int) != (m : Int)) = true := by simp; omega
          rw [if_pos (by omega)] at e0
          have e0 := hnone e0
          simp -dsimp [go_sem, hw2, h6b]
          exact ⟨.inl ⟨e0, rfl⟩, kw10.nw hk12⟩
  · obtain rfl : i = rows.length := by omega
    rw [List.drop_length] at htk
    have htk : takesP L.base (-1) [] rows = some (last, es) := htk
    simp -dsimp [go_sem, f9]
    exact ⟨.inr ⟨_, htk, rfl, ok7, G1, V1, lg7, Gr.wide gG hk1.size (Nat.le_refl _), Gr.wide gV hk1.size (Nat.le_refl _), hVV⟩, kw7⟩
end Go.Proofs.YthonmjgagblogaaGreat

namespace Go.Proofs.YthonmjgagblogaaGreat
set_option linter.unusedSimpArgs false
set_option linter.unusedVariables false
set_option maxRecDepth 100000
set_option maxHeartbeats 2000000
open Go.Vc Go.RowKit

theorem dTrunc_ok {D : Dsk} (h : D.Ok) (s : Nm) (n : Int) : (dTrunc D s n).1.Ok := by
  unfold dTrunc
  split
  · exact h
  · split
    · exact h
    · rename_i x hx
      split
      · exact h
      · refine (h.lay s _ ?_ ?_ (fun e => by rw [hx] at e; cases e) (h.names s x hx)).done
        · have := h.lasts s x hx
          simp only [List.length_take]; omega
        · rw [hx]
          have := h.used
          simp only [Option.getD_some, List.length_take]; omega
theorem rmvs_one (D : Dsk) (s : Nm) : rmvs D [s] = kW1 D s := by
  simp only [rmvs]
  split
  · rfl
  · rename_i h
    have h : (kW1 D s).2 = 0 := by simpa using h
    rw [← h]
/-- What opening comes to. -/
def ROpenR (w w' : World) (v : Value) (g : Nat) (p : Nm) (R : Dsk × Nat × Led) (F : Nat → Prop) : Prop :=
  ∃ F', RefD w' g R.1 F' ∧ Gr F F' w w' ∧ Kp F w w' ∧ ((R.2.1 ≠ 0 ∧ v = .tuple #[.pointer none, i64 R.2.1]) ∨ (R.2.1 = 0 ∧ ∃ l G' V', v = .tuple #[.pointer (some ⟨l, 0, none⟩), i64 0] ∧ RS w' l g p R.1 R.2.2 F' G' V' ∧ R.2.2.Ok ∧ Gr F V' w w'))
theorem ropen_spec (g : Nat) (p : Nm) (D : Dsk) (F : Nat → Prop) (w : World) (h : RefD w g D F) (ok : D.Ok) (hFl : ∀ k, F k → k < w.heap.size) (hp1 : 1 ≤ p.length) (hp2 : p.length ≤ 20) :
    Cal Tryz.prog 19 #[.pointer (some ⟨g, 0, none⟩), str p] w fun v w' => ROpenR w w' v g p (opn D p) F := by
  refine enter Tryz.mixed Tryz.func19 rfl (by kernel_rfl) ?_
  have h1' : ¬ (p.length : Int) < 1 := by omega
  have h1n : ¬ p.length < 1 := by omega
  have h2' : ¬ (20 : Int) < (p.length : Int) := by omega
  have h2n : ¬ 20 < p.length := by omega
  have hn5 : ¬ 9223372036854775807 < p.length + 5 := by omega
  have hn4 : ¬ 9223372036854775807 < p.length + 4 := by omega
  have hcat : (⟨p.toArray⟩ : ByteArray) ++ ⟨#[45, 105, 109, 103, 126]⟩ = ⟨(shadow (imgN p)).toArray⟩ := by
    have := cat_str p [45, 105, 109, 103, 126]
    rw [show p ++ [45, 105, 109, 103, 126] = shadow (imgN p) by simp [shadow, imgN]] at this
    exact this
  have hcatL : (⟨p.toArray⟩ : ByteArray) ++ ⟨#[45, 108, 111, 103]⟩ = ⟨(logN p).toArray⟩ := cat_str p [45, 108, 111, 103]
  have hsl : (shadow (imgN p)).length ≤ 9223372036854775807 := by simp [shadow, imgN]; omega
  have hsN : (logN p).length ≤ 9223372036854775807 := by simp [logN]; omega
  have eopn : opn D p = opn2 (kW1 D (shadow (imgN p))) p := by unfold opn; rw [rmvs_one]
  rw [eopn]
  clear eopn
  generalize shadow (imgN p) = sh at *
  obtain ⟨lN, hlN⟩ : ∃ lN, lN = logN p := ⟨_, rfl⟩
  rw [← hlN] at hcatL hsN
  simp -dsimp [go_sem, h1', h1n, h2', h2n]
  have kl : Nw w (w.alloc (.cells #[.pointer (some ⟨g, 0, none⟩), str p, i64 0, .slice none 0 0, .slice none 0 0, .bool false] 74)) := (Kp.refl _ _).alloc _
  have hb0 := Blk.new w 74 #[.pointer (some ⟨g, 0, none⟩), str p, i64 0, .slice none 0 0, .slice none 0 0, .bool false]
  obtain ⟨l, hl⟩ : ∃ l, l = w.heap.size := ⟨_, rfl⟩
  rw [← hl] at hb0 ⊢
  have hls : (w.alloc (.cells #[.pointer (some ⟨g, 0, none⟩), str p, i64 0, .slice none 0 0, .slice none 0 0, .bool false] 74)).heap.size = l + 1 := by simp [hl]
  have h0 : RS (w.alloc (.cells #[.pointer (some ⟨g, 0, none⟩), str p, i64 0, .slice none 0 0, .slice none 0 0, .bool false] 74)) l g p D Led.zero F (At l) (fun k => F k ∨ k = l) :=
    ⟨h.nw kl, ⟨none, 0, none, 0, [], hb0, Rd.nil _ _, (fun a ha => by cases ha), Nat.le_refl _, Ow.nil _ _ _, RV.nil _ _, by simp [Off], fun k hk => hk.elim id fun e => e.elim, fun k e => .inr e, fun k hk => hk.elim (fun e => by have := hFl k e; omega) fun e => by omega⟩, fun k hk => .inl hk, fun k hk (e : k = l) => by have := hFl k hk; omega⟩
  generalize w.alloc (.cells #[.pointer (some ⟨g, 0, none⟩), str p, i64 0, .slice none 0 0, .slice none 0 0, .bool false] 74) = w1 at *
  have gW0 : Gr F (fun k => F k ∨ k = l) w w1 := fun k hk => hk.imp id fun e => ⟨by omega, by omega⟩
  simp -dsimp [go_sem, hn5, hcat]
  refine call (rlhas_spec sh l g D F w1 h0.lg.c0 h0.dk ok) ?_
  rintro v w2 ⟨rfl, hk2⟩
  have n2 := kl.nw hk2
  have h2 := h0.nw hk2
  cases hx : tLook D.fs sh with
  | none =>
    rw [kW1_none hx]
    simp -dsimp [go_sem]
    have eo : opn2 (D, 0) p = opn3 D p (imgL D p) := rfl
    rw [eo]
    clear eo
    have hio := imgL_ok ok p
    have eo : opn3 D p (imgL D p) = if (imgL D p).2.2 ≠ 0 then (D, (imgL D p).2.2, ⟨0, [], [], false⟩) else ((logL D p (imgL D p).1).1, (logL D p (imgL D p).1).2.1, ⟨(imgL D p).1, (imgL D p).2.1, (logL D p (imgL D p).1).2.2, false⟩) := rfl
    refine call (rimage_spec l g p D F _ _ w2 h2 ok hp2) ?_
    rintro v w4 ⟨rfl, hL4, hK4⟩
    have hR4 : RS w4 l g p D _ F _ _ := RS.own h2 hL4 (fun k hk => .inl hk) (fun k hk => hk) (hK4.mono fun k _ (e : k = l) => e ▸ (RS.lg h2).gl)
    have kF4 : Kp F w w4 := Kp.trans (Nw.kp n2 F) hK4 fun k hk (e : k = l) => by omega
    have gF4 : Gr F F w w4 := Gr.wide (fun k hk => .inl hk) (Nat.le_refl _) hK4.size
    have gW4 : Gr F _ w w4 := Gr.wide (Gr.wide gW0 (Nat.le_refl _) hk2.size) (Nat.le_refl _) hK4.size
    obtain ⟨I, hI⟩ : ∃ I, I = imgL D p := ⟨_, rfl⟩
    rw [← hI] at eo hio hR4 ⊢
    obtain ⟨n, data, e⟩ := I
    simp only at eo hio hR4 ⊢
    by_cases he : e = 0
    · subst he
      rw [if_neg (fun h => h rfl)] at eo
      obtain ⟨hnb, hdb⟩ := hio rfl
      have okI : Led.Ok ⟨n, data, [], false⟩ := ⟨by simpa using hnb, hdb, by simp⟩
      simp -dsimp [go_sem, hn4, hcatL]
      refine call (rread_spec lN g D F w4 hR4.dk ok) ?_
      rintro v w5 ⟨hk5, u, rfl, hB5⟩
      have eL : logL D p n = match tLook (Dsk.fs D) lN with
        | none => (D, 0, [])
        | some x => logOf D lN n x.b := by rw [hlN]; rfl
      have h5 := hR4.nw hk5
      cases hx : tLook (Dsk.fs D) lN with
      | none =>
        rw [hx] at eL
        simp only at eL
        rw [eL] at eo
        have e7 : (dRead D lN).2 = 7 := by unfold dRead; rw [hx]
        rw [e7, eo]
        simp -dsimp [go_sem]
        exact ⟨F, h5.dk, Gr.wide gF4 (Nat.le_refl _) hk5.size, kF4.nw hk5, .inr ⟨rfl, l, _, _, rfl, h5, okI, Gr.wide gW4 (Nat.le_refl _) hk5.size⟩⟩
      | some f =>
        rw [hx] at eL
        simp only at eL
        have hrd : dRead D lN = (f.b, 0) := by unfold dRead; rw [hx]
        have hfl : f.b.length ≤ 1073741824 := by have := dRead_len ok lN; rw [hrd] at this; exact this
        rw [hrd] at hB5 ⊢
        obtain ⟨X, x, rfl, hoX, hX⟩ := id hB5
        simp only at hoX ⊢
        obtain ⟨b, hb⟩ : ∃ b, b = f.b := ⟨_, rfl⟩
        rw [← hb] at eL hoX hfl ⊢
        simp -dsimp [go_sem]
        refine call (rentries_spec l g p D ⟨n, data, [], false⟩ F _ _ b X x w5 h5 okI rfl hoX.rd hoX.2.1 hfl) ?_
        rintro v w7 ⟨hE, hK7⟩
        have elo : logOf D lN n b = match takesP n (-1) [] (scanL (b.length + 1) b).1 with
          | none => (D, 3, [])
          | some q => logFin D lN (scanL (b.length + 1) b).2 b.length q.2 := rfl
        rw [elo] at eL
        clear elo
        generalize (scanL (b.length + 1) b).1 = rows at *
        generalize (scanL (b.length + 1) b).2 = good at *
        have kF5 := kF4.nw hk5
        have gF5 : Gr F F w w5 := Gr.wide gF4 (Nat.le_refl _) hk5.size
        have gW5 : Gr F _ w w5 := Gr.wide gW4 (Nat.le_refl _) hk5.size
        have hG5 : ∀ k, At l k → w.heap.size ≤ k := fun k (e : k = l) => by omega
        have kF : Kp F w w7 := kF5.trans hK7 fun k hk h => by have := hG5 k h; omega
        rcases hE with ⟨hq, rfl⟩ | ⟨q, hq, rfl, okL, G7, V7, hL7, gG7, gV7, hVV7⟩
        · simp only at hq
          rw [hq] at eL
          simp only at eL
          rw [eL] at eo
          rw [eo]
          simp -dsimp [go_sem]
          exact ⟨F, h5.dk.kp hK7 (fun i hi hg => h5.dj i hi hg), Gr.wide gF5 (Nat.le_refl _) hK7.size, kF, .inl ⟨by simp, rfl⟩⟩
        · simp only at hq hL7
          rw [hq] at eL
          simp only at eL okL
          have h7 : RS w7 l g p D _ F G7 V7 := h5.own hL7 gG7 hVV7 hK7
          obtain ⟨last, es⟩ := q
          simp only at eL okL h7
          have e2 : logFin D lN good b.length es = if (cutIf D lN good b.length).2 ≠ 0 then ((cutIf D lN good b.length).1, (cutIf D lN good b.length).2, es) else ((emptyIf (cutIf D lN good b.length).1 lN es).1, (emptyIf (cutIf D lN good b.length).1 lN es).2, es) := rfl
          rw [e2] at eL
          clear e2
          have gF : Gr F F w w7 := Gr.wide gF5 (Nat.le_refl _) hK7.size
          have gV : Gr F V7 w w7 := Gr.trans gW5 gV7 kF5.size hK7.size
          by_cases hgd : good < b.length
          · have hgd' : (good : Int) < (b.length : Int) := by omega
            have ec : cutIf D lN good b.length = cutS D lN good := by unfold cutIf; rw [if_pos hgd]
            rw [ec] at eL
            simp -dsimp [go_sem, hgd, hgd', hn4, hcatL]
            refine call (rtrunc_spec lN good g D F w7 h7.dk ok hsN) ?_
            rintro v w8 ⟨rfl, F8, hD8, hG8, hK8⟩
            obtain ⟨h8, gV8⟩ := h7.disk hD8 hG8 hK8
            have ok8 := dTrunc_ok ok lN good
            have ecs : cutS D lN good = if (dTrunc D lN good).2 ≠ 0 then dTrunc D lN good else dStep fSync (dTrunc D lN good).1 lN := by unfold cutS; rw [dEach_one]
            rw [ecs] at eL
            clear ecs
            have kF8 := Kp.gr kF gF hK8
            have gF8 := Gr.trans gF hG8 kF.size hK8.size
            have gVV8 := Gr.trans gV gV8 kF.size hK8.size
            obtain ⟨R, hR⟩ : ∃ R, R = dTrunc D lN good := ⟨_, rfl⟩
            rw [← hR] at eL hD8 h8 ok8 ⊢
            obtain ⟨D8, e8⟩ := R
            simp only at eL hD8 h8 ok8 ⊢
            by_cases h0 : e8 = 0
            · subst h0
              rw [if_neg (show ¬ (0 : Nat) ≠ 0 from fun h => h rfl)] at eL
              simp -dsimp [go_sem, hn4, hcatL]
              refine call (rsync_spec lN g D8 F8 w8 h8.dk ok8 hsN) ?_
              rintro v w9 ⟨rfl, F9, hD9, hG9, hK9⟩
              obtain ⟨h9, gV9⟩ := h8.disk hD9 hG9 hK9
              have ok9 := dSync_ok ok8 lN
              have kF9 := Kp.gr kF8 gF8 hK9
              have gF9 := Gr.trans gF8 hG9 kF8.size hK9.size
              have gVV9 := Gr.trans gVV8 gV9 kF8.size hK9.size
              obtain ⟨R, hR⟩ : ∃ R, R = dStep fSync D8 lN := ⟨_, rfl⟩
              rw [← hR] at eL hD9 h9 ok9 ⊢
              obtain ⟨D9, e9⟩ := R
              simp only at eL hD9 h9 ok9 ⊢
              by_cases h1 : e9 = 0
              · subst h1
                rw [if_neg (fun h => h rfl)] at eL
                rw [eL] at eo
                have e0 := eo
                simp only at e0
                clear eo eL kF gF gV h7
                have kF := kF9
                have gF := gF9
                have gV := gVV9
                have h7 := h9
                obtain ⟨B9, d9, A9, c9, vs9, hb9, _⟩ := id h7.lg
                obtain ⟨nes, hnes⟩ : ∃ nes, nes = es.length := ⟨_, rfl⟩
                have l4 : World.cell? w9 ⟨l, 4, none⟩ = some (.slice A9 nes c9) := hnes ▸ hb9.cell 4
                by_cases hes : nes = 0
                · have ee : emptyIf D9 lN es = dStep fRemove D9 lN := by unfold emptyIf; rw [if_pos (by omega), dEach_one]
                  rw [ee] at e0
                  have hes' : ((nes : Int) == 0) = true := by simp; omega
                  simp -dsimp [go_sem, l4, hes', hes, hn4, hcatL]
                  refine call (rremove_spec lN g D9 F9 _ h7.dk ok9 hsN) ?_
                  rintro v wE ⟨rfl, FE, hDE, hGE, hKE⟩
                  obtain ⟨h8', gV8'⟩ := h7.disk hDE hGE hKE
                  obtain ⟨R, hR⟩ : ∃ R, R = dStep fRemove D9 lN := ⟨_, rfl⟩
                  rw [← hR] at e0 hDE h8' ⊢
                  obtain ⟨DE, eE⟩ := R
                  simp only at e0 hDE h8' ⊢
                  rw [e0]
                  have kE := Kp.gr kF gF hKE
                  by_cases hz : eE = 0
                  · subst hz
                    simp -dsimp [go_sem]
                    exact ⟨FE, hDE, Gr.trans gF hGE kF.size hKE.size, kE, .inr ⟨rfl, l, _, _, rfl, h8', okL, Gr.trans gV gV8' kF.size hKE.size⟩⟩
                  · have hz' : ((eE : Int) != 0) = true := by simp; omega
                    simp -dsimp [go_sem, hz', hz]
                    exact ⟨FE, hDE, Gr.trans gF hGE kF.size hKE.size, kE, .inl ⟨hz, rfl⟩⟩
                · have ee : emptyIf D9 lN es = (D9, 0) := by unfold emptyIf; rw [if_neg (by omega)]
                  rw [ee] at e0
                  rw [e0]
                  have hes' : ((nes : Int) == 0) = false := by simp; omega
                  simp -dsimp [go_sem, l4, hes', hes]
                  exact ⟨F9, h7.dk, gF, kF, .inr ⟨rfl, l, _, _, rfl, h7, okL, gV⟩⟩
              · have h1' : ((e9 : Int) != 0) = true := by simp; omega
                have h1'' : ((e9 : Int) == 0) = false := by simp; omega
                rw [if_pos h1] at eL
                rw [eL] at eo
                rw [eo]
                simp -dsimp [go_sem, h1', h1'', h1]
                exact ⟨F9, hD9, gF9, kF9, .inl ⟨h1, rfl⟩⟩
            · have h0' : ((e8 : Int) != 0) = true := by simp; omega
              have h0'' : ((e8 : Int) == 0) = false := by simp; omega
              rw [if_pos h0, if_pos h0] at eL
              rw [eL] at eo
              rw [eo]
              simp -dsimp [go_sem, h0', h0'', h0]
              exact ⟨F8, hD8, gF8, kF8, .inl ⟨h0, rfl⟩⟩
          · have hgd' : ¬ (good : Int) < (b.length : Int) := by omega
            have ec : cutIf D lN good b.length = (D, 0) := by unfold cutIf; rw [if_neg hgd]
            rw [ec, if_neg (fun h => h rfl)] at eL
            simp only at eL
            rw [eL] at eo
            have e0 := eo
            simp only at e0
            simp -dsimp [go_sem, hgd, hgd']
            obtain ⟨B9, d9, A9, c9, vs9, hb9, _⟩ := id h7.lg
            obtain ⟨nes, hnes⟩ : ∃ nes, nes = es.length := ⟨_, rfl⟩
            have l4 : World.cell? w7 ⟨l, 4, none⟩ = some (.slice A9 nes c9) := hnes ▸ hb9.cell 4
            by_cases hes : nes = 0
            · have ee : emptyIf D lN es = dStep fRemove D lN := by unfold emptyIf; rw [if_pos (by omega), dEach_one]
              rw [ee] at e0
              have hes' : ((nes : Int) == 0) = true := by simp; omega
              simp -dsimp [go_sem, l4, hes', hes, hn4, hcatL]
              refine call (rremove_spec lN g D F _ h7.dk ok hsN) ?_
              rintro v wE ⟨rfl, FE, hDE, hGE, hKE⟩
              obtain ⟨h8', gV8'⟩ := h7.disk hDE hGE hKE
              obtain ⟨R, hR⟩ : ∃ R, R = dStep fRemove D lN := ⟨_, rfl⟩
              rw [← hR] at e0 hDE h8' ⊢
              obtain ⟨DE, eE⟩ := R
              simp only at e0 hDE h8' ⊢
              rw [e0]
              have kE := Kp.gr kF gF hKE
              by_cases hz : eE = 0
              · subst hz
                simp -dsimp [go_sem]
                exact ⟨FE, hDE, Gr.trans gF hGE kF.size hKE.size, kE, .inr ⟨rfl, l, _, _, rfl, h8', okL, Gr.trans gV gV8' kF.size hKE.size⟩⟩
              · have hz' : ((eE : Int) != 0) = true := by simp; omega
                simp -dsimp [go_sem, hz', hz]
                exact ⟨FE, hDE, Gr.trans gF hGE kF.size hKE.size, kE, .inl ⟨hz, rfl⟩⟩
            · have ee : emptyIf D lN es = (D, 0) := by unfold emptyIf; rw [if_neg (by omega)]
              rw [ee] at e0
              rw [e0]
              have hes' : ((nes : Int) == 0) = false := by simp; omega
              simp -dsimp [go_sem, l4, hes', hes]
              exact ⟨F, h7.dk, gF, kF, .inr ⟨rfl, l, _, _, rfl, h7, okL, gV⟩⟩
    · rw [if_pos he] at eo
      have he' : ((e : Int) != 0) = true := by simp; omega
      rw [eo]
      simp -dsimp [go_sem, he', he]
      exact ⟨F, hR4.dk, gF4, kF4, .inl ⟨he, rfl⟩⟩
  | some y =>
    rw [kW1_some hx, dEach_one]
    simp -dsimp [go_sem, hn5, hcat]
    refine call (rremove_spec sh g D F w2 h2.dk ok hsl) ?_
    rintro v w3 ⟨rfl, F3, hD3, hG3, hK3⟩
    obtain ⟨h3, gV3⟩ := h2.disk hD3 hG3 hK3
    have ok3 := dRemove_ok ok sh
    have kF3 := (Nw.kp n2 F).trans hK3 fun _ _ h => h
    have gF3 : Gr F F3 w w3 := Gr.wide hG3 n2.size (Nat.le_refl _)
    have gW3 := Gr.trans (Gr.wide gW0 (Nat.le_refl _) hk2.size) gV3 n2.size hK3.size
    obtain ⟨R, hR⟩ : ∃ R, R = dStep fRemove D sh := ⟨_, rfl⟩
    rw [← hR] at hD3 h3 ok3 ⊢
    obtain ⟨D3, e3⟩ := R
    simp only at hD3 h3 ok3 ⊢
    by_cases he3 : e3 = 0
    · subst he3
      simp -dsimp [go_sem]
      have eo : opn2 (D3, 0) p = opn3 D3 p (imgL D3 p) := rfl
      rw [eo]
      clear eo
      have hio := imgL_ok ok3 p
      have eo : opn3 D3 p (imgL D3 p) = if (imgL D3 p).2.2 ≠ 0 then (D3, (imgL D3 p).2.2, ⟨0, [], [], false⟩) else ((logL D3 p (imgL D3 p).1).1, (logL D3 p (imgL D3 p).1).2.1, ⟨(imgL D3 p).1, (imgL D3 p).2.1, (logL D3 p (imgL D3 p).1).2.2, false⟩) := rfl
      refine call (rimage_spec l g p D3 F3 _ _ w3 h3 ok3 hp2) ?_
      rintro v w4 ⟨rfl, hL4, hK4⟩
      have hR4 : RS w4 l g p D3 _ F3 _ _ := RS.own h3 hL4 (fun k hk => .inl hk) (fun k hk => hk) (hK4.mono fun k _ (e : k = l) => e ▸ (RS.lg h3).gl)
      have kF4 : Kp F w w4 := Kp.trans kF3 hK4 fun k hk (e : k = l) => by omega
      have gF4 : Gr F F3 w w4 := Gr.wide gF3 (Nat.le_refl _) hK4.size
      have gW4 : Gr F _ w w4 := Gr.wide gW3 (Nat.le_refl _) hK4.size
      obtain ⟨I, hI⟩ : ∃ I, I = imgL D3 p := ⟨_, rfl⟩
      rw [← hI] at eo hio hR4 ⊢
      obtain ⟨n, data, e⟩ := I
      simp only at eo hio hR4 ⊢
      by_cases he : e = 0
      · subst he
        rw [if_neg (fun h => h rfl)] at eo
        obtain ⟨hnb, hdb⟩ := hio rfl
        have okI : Led.Ok ⟨n, data, [], false⟩ := ⟨by simpa using hnb, hdb, by simp⟩
        simp -dsimp [go_sem, hn4, hcatL]
        refine call (rread_spec lN g D3 F3 w4 hR4.dk ok3) ?_
        rintro v w5 ⟨hk5, u, rfl, hB5⟩
        have eL : logL D3 p n = match tLook (Dsk.fs D3) lN with
          | none => (D3, 0, [])
          | some x => logOf D3 lN n x.b := by rw [hlN]; rfl
        have h5 := hR4.nw hk5
        cases hx : tLook (Dsk.fs D3) lN with
        | none =>
          rw [hx] at eL
          simp only at eL
          rw [eL] at eo
          have e7 : (dRead D3 lN).2 = 7 := by unfold dRead; rw [hx]
          rw [e7, eo]
          simp -dsimp [go_sem]
          exact ⟨F3, h5.dk, Gr.wide gF4 (Nat.le_refl _) hk5.size, kF4.nw hk5, .inr ⟨rfl, l, _, _, rfl, h5, okI, Gr.wide gW4 (Nat.le_refl _) hk5.size⟩⟩
        | some f =>
          rw [hx] at eL
          simp only at eL
          have hrd : dRead D3 lN = (f.b, 0) := by unfold dRead; rw [hx]
          have hfl : f.b.length ≤ 1073741824 := by have := dRead_len ok3 lN; rw [hrd] at this; exact this
          rw [hrd] at hB5 ⊢
          obtain ⟨X, x, rfl, hoX, hX⟩ := id hB5
          simp only at hoX ⊢
          obtain ⟨b, hb⟩ : ∃ b, b = f.b := ⟨_, rfl⟩
          rw [← hb] at eL hoX hfl ⊢
          simp -dsimp [go_sem]
          refine call (rentries_spec l g p D3 ⟨n, data, [], false⟩ F3 _ _ b X x w5 h5 okI rfl hoX.rd hoX.2.1 hfl) ?_
          rintro v w7 ⟨hE, hK7⟩
          have elo : logOf D3 lN n b = match takesP n (-1) [] (scanL (b.length + 1) b).1 with
            | none => (D3, 3, [])
            | some q => logFin D3 lN (scanL (b.length + 1) b).2 b.length q.2 := rfl
          rw [elo] at eL
          clear elo
          generalize (scanL (b.length + 1) b).1 = rows at *
          generalize (scanL (b.length + 1) b).2 = good at *
          have kF5 := kF4.nw hk5
          have gF5 : Gr F F3 w w5 := Gr.wide gF4 (Nat.le_refl _) hk5.size
          have gW5 : Gr F _ w w5 := Gr.wide gW4 (Nat.le_refl _) hk5.size
          have hG5 : ∀ k, At l k → w.heap.size ≤ k := fun k (e : k = l) => by omega
          have kF : Kp F w w7 := kF5.trans hK7 fun k hk h => by have := hG5 k h; omega
          rcases hE with ⟨hq, rfl⟩ | ⟨q, hq, rfl, okL, G7, V7, hL7, gG7, gV7, hVV7⟩
          · simp only at hq
            rw [hq] at eL
            simp only at eL
            rw [eL] at eo
            rw [eo]
            simp -dsimp [go_sem]
            exact ⟨F3, h5.dk.kp hK7 (fun i hi hg => h5.dj i hi hg), Gr.wide gF5 (Nat.le_refl _) hK7.size, kF, .inl ⟨by simp, rfl⟩⟩
          · simp only at hq hL7
            rw [hq] at eL
            simp only at eL okL
            have h7 : RS w7 l g p D3 _ F3 G7 V7 := h5.own hL7 gG7 hVV7 hK7
            obtain ⟨last, es⟩ := q
            simp only at eL okL h7
            have e2 : logFin D3 lN good b.length es = if (cutIf D3 lN good b.length).2 ≠ 0 then ((cutIf D3 lN good b.length).1, (cutIf D3 lN good b.length).2, es) else ((emptyIf (cutIf D3 lN good b.length).1 lN es).1, (emptyIf (cutIf D3 lN good b.length).1 lN es).2, es) := rfl
            rw [e2] at eL
            clear e2
            have gF : Gr F F3 w w7 := Gr.wide gF5 (Nat.le_refl _) hK7.size
            have gV : Gr F V7 w w7 := Gr.trans gW5 gV7 kF5.size hK7.size
            by_cases hgd : good < b.length
            · have hgd' : (good : Int) < (b.length : Int) := by omega
              have ec : cutIf D3 lN good b.length = cutS D3 lN good := by unfold cutIf; rw [if_pos hgd]
              rw [ec] at eL
              simp -dsimp [go_sem, hgd, hgd', hn4, hcatL]
              refine call (rtrunc_spec lN good g D3 F3 w7 h7.dk ok3 hsN) ?_
              rintro v w8 ⟨rfl, F8, hD8, hG8, hK8⟩
              obtain ⟨h8, gV8⟩ := h7.disk hD8 hG8 hK8
              have ok8 := dTrunc_ok ok3 lN good
              have ecs : cutS D3 lN good = if (dTrunc D3 lN good).2 ≠ 0 then dTrunc D3 lN good else dStep fSync (dTrunc D3 lN good).1 lN := by unfold cutS; rw [dEach_one]
              rw [ecs] at eL
              clear ecs
              have kF8 := Kp.gr kF gF hK8
              have gF8 := Gr.trans gF hG8 kF.size hK8.size
              have gVV8 := Gr.trans gV gV8 kF.size hK8.size
              obtain ⟨R, hR⟩ : ∃ R, R = dTrunc D3 lN good := ⟨_, rfl⟩
              rw [← hR] at eL hD8 h8 ok8 ⊢
              obtain ⟨D8, e8⟩ := R
              simp only at eL hD8 h8 ok8 ⊢
              by_cases h0 : e8 = 0
              · subst h0
                rw [if_neg (show ¬ (0 : Nat) ≠ 0 from fun h => h rfl)] at eL
                simp -dsimp [go_sem, hn4, hcatL]
                refine call (rsync_spec lN g D8 F8 w8 h8.dk ok8 hsN) ?_
                rintro v w9 ⟨rfl, F9, hD9, hG9, hK9⟩
                obtain ⟨h9, gV9⟩ := h8.disk hD9 hG9 hK9
                have ok9 := dSync_ok ok8 lN
                have kF9 := Kp.gr kF8 gF8 hK9
                have gF9 := Gr.trans gF8 hG9 kF8.size hK9.size
                have gVV9 := Gr.trans gVV8 gV9 kF8.size hK9.size
                obtain ⟨R, hR⟩ : ∃ R, R = dStep fSync D8 lN := ⟨_, rfl⟩
                rw [← hR] at eL hD9 h9 ok9 ⊢
                obtain ⟨D9, e9⟩ := R
                simp only at eL hD9 h9 ok9 ⊢
                by_cases h1 : e9 = 0
                · subst h1
                  rw [if_neg (fun h => h rfl)] at eL
                  rw [eL] at eo
                  have e0 := eo
                  simp only at e0
                  clear eo eL kF gF gV h7
                  have kF := kF9
                  have gF := gF9
                  have gV := gVV9
                  have h7 := h9
                  obtain ⟨B9, d9, A9, c9, vs9, hb9, _⟩ := id h7.lg
                  obtain ⟨nes, hnes⟩ : ∃ nes, nes = es.length := ⟨_, rfl⟩
                  have l4 : World.cell? w9 ⟨l, 4, none⟩ = some (.slice A9 nes c9) := hnes ▸ hb9.cell 4
                  by_cases hes : nes = 0
                  · have ee : emptyIf D9 lN es = dStep fRemove D9 lN := by unfold emptyIf; rw [if_pos (by omega), dEach_one]
                    rw [ee] at e0
                    have hes' : ((nes : Int) == 0) = true := by simp; omega
                    simp -dsimp [go_sem, l4, hes', hes, hn4, hcatL]
                    refine call (rremove_spec lN g D9 F9 _ h7.dk ok9 hsN) ?_
                    rintro v wE ⟨rfl, FE, hDE, hGE, hKE⟩
                    obtain ⟨h8', gV8'⟩ := h7.disk hDE hGE hKE
                    obtain ⟨R, hR⟩ : ∃ R, R = dStep fRemove D9 lN := ⟨_, rfl⟩
                    rw [← hR] at e0 hDE h8' ⊢
                    obtain ⟨DE, eE⟩ := R
                    simp only at e0 hDE h8' ⊢
                    rw [e0]
                    have kE := Kp.gr kF gF hKE
                    by_cases hz : eE = 0
                    · subst hz
                      simp -dsimp [go_sem]
                      exact ⟨FE, hDE, Gr.trans gF hGE kF.size hKE.size, kE, .inr ⟨rfl, l, _, _, rfl, h8', okL, Gr.trans gV gV8' kF.size hKE.size⟩⟩
                    · have hz' : ((eE : Int) != 0) = true := by simp; omega
                      simp -dsimp [go_sem, hz', hz]
                      exact ⟨FE, hDE, Gr.trans gF hGE kF.size hKE.size, kE, .inl ⟨hz, rfl⟩⟩
                  · have ee : emptyIf D9 lN es = (D9, 0) := by unfold emptyIf; rw [if_neg (by omega)]
                    rw [ee] at e0
                    rw [e0]
                    have hes' : ((nes : Int) == 0) = false := by simp; omega
                    simp -dsimp [go_sem, l4, hes', hes]
                    exact ⟨F9, h7.dk, gF, kF, .inr ⟨rfl, l, _, _, rfl, h7, okL, gV⟩⟩
                · have h1' : ((e9 : Int) != 0) = true := by simp; omega
                  have h1'' : ((e9 : Int) == 0) = false := by simp; omega
                  rw [if_pos h1] at eL
                  rw [eL] at eo
                  rw [eo]
                  simp -dsimp [go_sem, h1', h1'', h1]
                  exact ⟨F9, hD9, gF9, kF9, .inl ⟨h1, rfl⟩⟩
              · have h0' : ((e8 : Int) != 0) = true := by simp; omega
                have h0'' : ((e8 : Int) == 0) = false := by simp; omega
                rw [if_pos h0, if_pos h0] at eL
                rw [eL] at eo
                rw [eo]
                simp -dsimp [go_sem, h0', h0'', h0]
                exact ⟨F8, hD8, gF8, kF8, .inl ⟨h0, rfl⟩⟩
            · have hgd' : ¬ (good : Int) < (b.length : Int) := by omega
              have ec : cutIf D3 lN good b.length = (D3, 0) := by unfold cutIf; rw [if_neg hgd]
              rw [ec, if_neg (fun h => h rfl)] at eL
              simp only at eL
              rw [eL] at eo
              have e0 := eo
              simp only at e0
              simp -dsimp [go_sem, hgd, hgd']
              obtain ⟨B9, d9, A9, c9, vs9, hb9, _⟩ := id h7.lg
              obtain ⟨nes, hnes⟩ : ∃ nes, nes = es.length := ⟨_, rfl⟩
              have l4 : World.cell? w7 ⟨l, 4, none⟩ = some (.slice A9 nes c9) := hnes ▸ hb9.cell 4
              by_cases hes : nes = 0
              · have ee : emptyIf D3 lN es = dStep fRemove D3 lN := by unfold emptyIf; rw [if_pos (by omega), dEach_one]
                rw [ee] at e0
                have hes' : ((nes : Int) == 0) = true := by simp; omega
                simp -dsimp [go_sem, l4, hes', hes, hn4, hcatL]
                refine call (rremove_spec lN g D3 F3 _ h7.dk ok3 hsN) ?_
                rintro v wE ⟨rfl, FE, hDE, hGE, hKE⟩
                obtain ⟨h8', gV8'⟩ := h7.disk hDE hGE hKE
                obtain ⟨R, hR⟩ : ∃ R, R = dStep fRemove D3 lN := ⟨_, rfl⟩
                rw [← hR] at e0 hDE h8' ⊢
                obtain ⟨DE, eE⟩ := R
                simp only at e0 hDE h8' ⊢
                rw [e0]
                have kE := Kp.gr kF gF hKE
                by_cases hz : eE = 0
                · subst hz
                  simp -dsimp [go_sem]
                  exact ⟨FE, hDE, Gr.trans gF hGE kF.size hKE.size, kE, .inr ⟨rfl, l, _, _, rfl, h8', okL, Gr.trans gV gV8' kF.size hKE.size⟩⟩
                · have hz' : ((eE : Int) != 0) = true := by simp; omega
                  simp -dsimp [go_sem, hz', hz]
                  exact ⟨FE, hDE, Gr.trans gF hGE kF.size hKE.size, kE, .inl ⟨hz, rfl⟩⟩
              · have ee : emptyIf D3 lN es = (D3, 0) := by unfold emptyIf; rw [if_neg (by omega)]
                rw [ee] at e0
                rw [e0]
                have hes' : ((nes : Int) == 0) = false := by simp; omega
                simp -dsimp [go_sem, l4, hes', hes]
                exact ⟨F3, h7.dk, gF, kF, .inr ⟨rfl, l, _, _, rfl, h7, okL, gV⟩⟩
      · rw [if_pos he] at eo
        have he' : ((e : Int) != 0) = true := by simp; omega
        rw [eo]
        simp -dsimp [go_sem, he', he]
        exact ⟨F3, hR4.dk, gF4, kF4, .inl ⟨he, rfl⟩⟩
    · have eo : opn2 (D3, e3) p = (D3, e3, ⟨0, [], [], false⟩) := by unfold opn2; rw [if_pos he3]
      have he' : ((e3 : Int) != 0) = true := by simp; omega
      have he'' : ((e3 : Int) == 0) = false := by simp; omega
      rw [eo]
      simp -dsimp [go_sem, he', he'', he3]
      exact ⟨F3, hD3, gF3, kF3, .inl ⟨he3, rfl⟩⟩
end Go.Proofs.YthonmjgagblogaaGreat

namespace Go.Proofs.YthonmjgagblogaaGreat
set_option linter.unusedSimpArgs false
set_option linter.unusedVariables false
set_option maxRecDepth 100000
set_option maxHeartbeats 2000000
open Go.Vc Go.RowKit

theorem alike_spec (l g y x : Nat) (p : Nm) (L : Led) (G V G' V' : Nat → Prop) (w : World) (h : Lg w l g p L G V) (k : Rl w y x p L G' V') (ok : L.Ok) :
    Cal Tryz.prog 21 #[.pointer (some ⟨l, 0, none⟩), .pointer (some ⟨y, 0, none⟩)] w fun v w' => v = .bool true ∧ Nw w w' := by
  have hlast := ok.last
  refine enter Tryz.mixed Tryz.func21 rfl (by kernel_rfl) ?_
  simp -dsimp [go_sem]
  refine call (base_spec l g p L G V w h ok) ?_
  rintro v w1 ⟨hk1, u, rfl, hB⟩
  obtain ⟨A1, c1, rfl, ho1, hA1⟩ := id hB
  have k1 := k.nw hk1
  have h1 := h.nw hk1
  obtain ⟨B, d, A, c, vs, hb, hr, _⟩ := id k1
  have c2 : w1.cell? ⟨y, 2, none⟩ = some (i64 L.base) := hb.cell 2
  have c3 : w1.cell? ⟨y, 3, none⟩ = some (.slice B L.data.length d) := hb.cell 3
  have kd : Nw w1 w1.drew := (Kp.refl _ _).drew
  have c2d := kd.cell_some c2 fun h => h
  have c3d := kd.cell_some c3 fun h => h
  have hcm : ∀ W, Nw w1 W → (convert 22 9 (.slice A1 L.data.length c1)).run Tryz.prog W = .ok (.string ⟨L.data.toArray⟩) W := fun W hW => conv_str (e := 5) (by kernel_rfl) (by kernel_rfl) (by kernel_rfl) (ho1.rd.nw hW)
  have hck : ∀ W, Nw w1 W → (convert 22 9 (.slice B L.data.length d)).run Tryz.prog W = .ok (.string ⟨L.data.toArray⟩) W := fun W hW => conv_str (e := 5) (by kernel_rfl) (by kernel_rfl) (by kernel_rfl) (hr.nw hW)
  have hcmd := hcm _ kd
  have hckd := hck _ kd
  have hbb : ((L.base : Int) != (L.base : Int)) = false := by simp
  simp -dsimp [go_sem]
  refine draw (.take 0 (.take 1 (.take 2 (.take 3 (.take 4 (.take 5 (.take 6 (.take 7 (.take 8 (.take 9 (.take 10 (.take 11 (.take 12 (.take 13 (.take 14 (.take 15 (.take 16 (.take 17 (.take 19 (.alt 18 (.alt 20 (.take 21 (.take 22 .done)) .stop) .stop)))))))))))))))))))) (by kernel_rfl) (fun wz => Nw w1 wz) kd ?_
  simp -dsimp [go_sem, c2d, c3d, hcmd, hckd, hbb]
  repeat refine ⟨fun wz hz => by first | exact hcm wz hz | exact hck wz hz | simp [hz.cell_some c2 fun h => h, hz.cell_some c3 fun h => h], ?_⟩
  refine call (last_spec l g p L G V _ (h1.nw kd) ok) ?_
  rintro v w2 ⟨rfl, hk2⟩
  have n2 := kd.nw hk2
  refine ⟨n2, ?_⟩
  simp -dsimp [go_sem]
  refine call (rlast_spec y x p L G' V' _ (k1.nw n2) ok) ?_
  rintro v w3 ⟨rfl, hk3⟩
  have n3 := n2.nw hk3
  refine ⟨n3, ?_⟩
  have hll : L.last = L.base + L.ents.length := rfl
  have hwm : IntKind.i64.wrap ((L.base : Int) - 1) = (L.base : Int) - 1 := w64 (by omega) (by omega)
  have hwl : IntKind.i64.wrap ((L.last : Int) + 1) = ((L.last + 1 : Nat) : Int) := by rw [w64 (by omega) (by omega)]; omega
  have hbl : ((L.last : Int) != (L.last : Int)) = false := by simp
  obtain ⟨M, hM⟩ : ∃ M, M = L.last + 1 := ⟨_, rfl⟩
  rw [← hM] at hwl
  simp -dsimp [go_sem, hwm, hbl]
  refine loop [4, 7, 8, 9, 10, 11, 42, 43, 44, 45, 46, 47, 48, 49, 50, 51, 52, 53, 54, 55, 56, 57, 58, 59, 60, 61, 62, 63, 64, 65, 66, 67, 68, 69, 70] (by kernel_rfl)
    (fun f w' => Box1 (fun a w' => ∃ z : Int, a = i64 z ∧ -1 ≤ z ∧ z ≤ M + 1 ∧ Nw w1 w') (f 7) w') (fun f _ => ((M : Int) + 1 - intOf (f 7)).toNat) ⟨(L.base : Int) - 1, rfl, by omega, by omega, n3⟩ ?_
  rintro f w4 ⟨z, f7, hz1, hz2, n4⟩
  simp -dsimp [go_sem, f7]
  refine call (last_spec l g p L G V _ (h1.nw n4) ok) ?_
  rintro v w5 ⟨rfl, hk5⟩
  have n5 := n4.nw hk5
  by_cases hlt : z ≤ M
  · have hz3 : IntKind.i64.wrap (z + 1) = z + 1 := w64 (by omega) (by omega)
    simp -dsimp [go_sem, f7, hwl, hlt]
    refine call (at_spec z l g p L G V w5 (h1.nw n5) ok (by omega)) ?_
    rintro v w6 ⟨hk6, u6, rfl, hB6⟩
    simp -dsimp [go_sem, f7]
    refine call (rat_spec z y x p L G' V' w6 ((k1.nw n5).nw hk6) ok (by omega)) ?_
    rintro v w7 ⟨hk7, u7, rfl, hB7⟩
    obtain ⟨A6, c6, rfl, ho6, hA6⟩ := id (hB6.nw hk7)
    obtain ⟨A7, c7, rfl, ho7, hA7⟩ := id hB7
    have hc1 : convR Tryz.prog 22 9 (.slice A6 (lAt L z).1.length c6) w7 = .ok (.string ⟨(lAt L z).1.toArray⟩) w7 := conv_str (e := 5) (by kernel_rfl) (by kernel_rfl) (by kernel_rfl) ho6.rd
    have hc2 : convR Tryz.prog 22 9 (.slice A7 (lAt L z).1.length c7) w7 = .ok (.string ⟨(lAt L z).1.toArray⟩) w7 := conv_str (e := 5) (by kernel_rfl) (by kernel_rfl) (by kernel_rfl) ho7.rd
    generalize (lAt L z).1 = q at *
    generalize (lAt L z).2 = e at *
    have hee : ((e : Int) != (e : Int)) = false := by simp
    simp -dsimp [go_sem, f7, hc1, hc2, hz3, hee]
    exact ⟨⟨z + 1, rfl, by omega, by omega, (n5.nw hk6).nw hk7⟩, by simp [intOf]; omega⟩
  · simp -dsimp [go_sem, f7, hwl, hlt]
    exact hk1.nw n5
theorem files_spec (d x : Nat) (D : Dsk) (F G : Nat → Prop) (w : World) (hF : Dk w d D F) (hG : RefD w x D G) :
    Cal Tryz.prog 20 #[.pointer (some ⟨d, 0, none⟩), .pointer (some ⟨x, 0, none⟩)] w fun v w' => v = .bool true ∧ Nw w w' := by
  have ok := hF.ok
  have hmany := ok.many
  refine enter Tryz.mixed Tryz.func20 rfl (by kernel_rfl) ?_
  simp -dsimp [go_sem]
  refine call (dlist_spec d D F w hF) ?_
  rintro u w1 ⟨hk1, A2, c2, rfl, hr2, hc2, hA2⟩
  simp -dsimp [go_sem]
  refine call (rlist_spec x D G w1 (hG.nw hk1) ok) ?_
  rintro u w2 ⟨hk2, A1, c1, rfl, ho1, hA1⟩
  have hkl : (keysA D.fs).length = D.fs.length := by simp [keysA]
  have hr1 := ho1.rd
  have hr2 := hr2.nw hk2
  obtain ⟨L, hL⟩ : ∃ L, L = keysA D.fs := ⟨_, rfl⟩
  clear ho1
  rw [← hL] at hr1 hr2 hkl
  rw [← hkl] at hmany ⊢
  obtain ⟨M, hM⟩ : ∃ M, M = L.length := ⟨_, rfl⟩
  rw [← hM] at hmany ⊢
  have n2 := hk1.nw hk2
  have hMM : ((M : Int) != (M : Int)) = false := by simp
  simp -dsimp [go_sem, hMM]
  refine loop [4, 7, 8, 9, 10, 11, 21, 22, 23, 24, 25, 26, 27, 28, 29, 30, 31, 32, 33, 34, 35, 36, 37, 38, 39, 40, 41, 42, 43, 44, 45, 46, 47, 48, 49, 50, 51, 52, 53, 54, 55, 56, 57, 58, 59, 60] (by kernel_rfl)
    (fun f w' => Box1 (fun a w' => ∃ k : Nat, a = i64 k ∧ k ≤ M ∧ Nw w2 w') (f 7) w') (fun f _ => M - (intOf (f 7)).toNat) ⟨0, rfl, Nat.zero_le _, Kp.refl _ _⟩ ?_
  rintro f w3 ⟨k, f7, hk, n3⟩
  by_cases hlt : k < M
  · obtain ⟨b, o, rfl, hc0⟩ := hr2 k (str (L[k]'(by omega))) (by simp [show k < L.length by omega])
    obtain ⟨b', o', rfl, hc0'⟩ := hr1 k (str (L[k]'(by omega))) (by simp [show k < L.length by omega])
    have hc : w3.cell? ⟨b, o + k, none⟩ = _ := n3.cell_some hc0 fun h => h
    have hc' : w3.cell? ⟨b', o' + k, none⟩ = _ := n3.cell_some hc0' fun h => h
    have hk1' : IntKind.i64.wrap ((k : Int) + 1) = ((k + 1 : Nat) : Int) := w64 (by omega) (by omega)
    obtain ⟨k1, hk1''⟩ : ∃ k1, k1 = k + 1 := ⟨_, rfl⟩
    rw [← hk1''] at hk1'
    generalize L[k]'(by omega) = nm at *
    simp -dsimp [go_sem, f7, hlt, hc]
    refine call (dread_spec nm d D F w3 ((hF.nw n2).nw n3)) ?_
    rintro u w4 ⟨hk4, u4, rfl, hB4⟩
    have hc4 := hk4.cell_some hc fun h => h
    have hc4' := hk4.cell_some hc' fun h => h
    simp -dsimp [go_sem, f7, hlt, hc4]
    refine call (rread_spec nm x D G w4 (((hG.nw n2).nw n3).nw hk4) ok) ?_
    rintro u w5 ⟨hk5, u5, rfl, hB5⟩
    have hc5 := hk5.cell_some hc4 fun h => h
    have hc5' := hk5.cell_some hc4' fun h => h
    obtain ⟨A7, c7, rfl, ho7, hA7⟩ := id (hB4.nw hk5)
    obtain ⟨A8, c8, rfl, ho8, hA8⟩ := id hB5
    generalize (dRead D nm).1 = q at *
    have kd : Nw w5 w5.drew := (Kp.refl _ _).drew
    have hcm : ∀ W, Nw w5 W → (convert 22 9 (.slice A7 q.length c7)).run Tryz.prog W = .ok (.string ⟨q.toArray⟩) W := fun W hW => conv_str (e := 5) (by kernel_rfl) (by kernel_rfl) (by kernel_rfl) (ho7.rd.nw hW)
    have hck : ∀ W, Nw w5 W → (convert 22 9 (.slice A8 q.length c8)).run Tryz.prog W = .ok (.string ⟨q.toArray⟩) W := fun W hW => conv_str (e := 5) (by kernel_rfl) (by kernel_rfl) (by kernel_rfl) (ho8.rd.nw hW)
    have hcmd := hcm _ kd
    have hckd := hck _ kd
    have hc5d := kd.cell_some hc5 fun h => h
    have hc5d' := kd.cell_some hc5' fun h => h
    simp -dsimp [go_sem]
    refine draw (.take 0 (.take 1 (.take 2 (.take 3 (.take 4 (.take 5 (.take 6 (.take 7 (.take 8 (.take 9 (.take 10 (.take 11 (.take 12 (.take 13 (.take 14 (.take 15 .done)))))))))))))))) (by kernel_rfl) (fun wz => Nw w5 wz) kd ?_
    simp -dsimp [go_sem, f7, hlt, hc5d, hc5d', hcmd, hckd]
    repeat refine ⟨fun wz hz => by first | exact hcm wz hz | exact hck wz hz | simp [hz.cell_some hc5 fun h => h, hz.cell_some hc5' fun h => h], ?_⟩
    simp -dsimp [go_sem, f7, hk1']
    exact ⟨⟨k1, rfl, by omega, ((n3.nw hk4).nw hk5).nw kd⟩, by simp [intOf]; omega⟩
  · obtain rfl : k = M := by omega
    simp -dsimp [go_sem, f7]
    exact n2.nw n3
end Go.Proofs.YthonmjgagblogaaGreat

namespace Go.Proofs.YthonmjgagblogaaGreat
set_option linter.unusedSimpArgs false
set_option linter.unusedVariables false
set_option maxRecDepth 100000
set_option maxHeartbeats 2000000
open Go.Vc Go.RowKit

theorem opened_spec (d x : Nat) (D : Dsk) (F G : Nat → Prop) (w : World) (hF : Dk w d D F) (hG : RefD w x D G) (dj : ∀ i, F i → ¬ G i) :
    Cal Tryz.prog 8 #[.pointer (some ⟨d, 0, none⟩), .pointer (some ⟨x, 0, none⟩)] w fun v w' => (∃ a b, v = .tuple #[a, b, .bool true]) ∧ Kp (fun k => F k ∨ G k) w w' := by
  have ok := hF.ok
  have hGl := hG.lt
  refine enter Tryz.mixed Tryz.func8 rfl (by kernel_rfl) ?_
  simp -dsimp [go_sem]
  refine call (open_specE G d [97] D F w hF hGl (by decide) (by decide)) ?_
  rintro v w1 ⟨F1, hD1, gF, kF, hc1⟩
  have hG1 := hG.kp kF fun i hg hf => dj i hf hg
  have hro := ropen_spec x [97] D G w1 hG1 ok (fun k hk => Nat.lt_of_lt_of_le (hGl k hk) kF.size) (by decide) (by decide)
  obtain ⟨R, hR⟩ : ∃ R, R = opn D [97] := ⟨_, rfl⟩
  rw [← hR] at hD1 hc1 hro
  obtain ⟨D1, e, L⟩ := R
  simp only at hD1 hc1
  have dj1 : ∀ i, F1 i → ¬ G i := Gr.dj gF dj hGl
  have hee : ((e : Int) != (e : Int)) = false := by simp
  rcases hc1 with ⟨he, rfl⟩ | ⟨he, l, GL, VL, rfl, hLS, okL, gV, hEV, hGn⟩
  · simp -dsimp [go_sem]
    refine call hro ?_
    rintro v w2 ⟨G2, hE2, gG, kG, hc2⟩
    simp only at hE2 hc2
    have hD2 := hD1.kp kG fun i hf hg => dj1 i hf hg
    have kT : Kp (fun k => F k ∨ G k) w w2 := (kF.mono fun i _ h => .inl h).trans kG fun i _ h => .inr h
    have he1 : ((e : Int) != 0) = true := by simp; omega
    rcases hc2 with ⟨_, rfl⟩ | ⟨h, _⟩
    · simp -dsimp [go_sem, hee, he1]
      refine call (files_spec d x D1 F1 G2 w2 hD2 hE2) ?_
      rintro u w3 ⟨rfl, hk3⟩
      simp -dsimp [go_sem, he1]
      exact kT.nw hk3
    · exact absurd h he
  · subst he
    simp -dsimp [go_sem]
    refine call hro ?_
    rintro v w2 ⟨G2, hE2, gG, kG, hc2⟩
    simp only at hE2 hc2
    have hD2 := hD1.kp kG fun i hf hg => dj1 i hf hg
    have kT : Kp (fun k => F k ∨ G k) w w2 := (kF.mono fun i _ h => .inl h).trans kG fun i _ h => .inr h
    have hL2 := hLS.lg.kp kG fun i hi => ⟨hEV i hi, fun hg => by have := hGn i hg; have := hGl i hi; omega⟩
    rcases hc2 with ⟨h, _⟩ | ⟨_, y, GR, VR, rfl, hRS, _, _⟩
    · exact absurd rfl h
    · simp -dsimp [go_sem]
      refine call (files_spec d x D1 F1 G2 w2 hD2 hE2) ?_
      rintro u w3 ⟨rfl, hk3⟩
      simp -dsimp [go_sem]
      refine call (alike_spec l d y x [97] L GL VL GR VR w3 (hL2.nw hk3) (hRS.lg.nw hk3) okL) ?_
      rintro u w4 ⟨rfl, hk4⟩
      simp -dsimp [go_sem]
      exact (kT.nw hk3).nw hk4
theorem ldisks_law (a b : List UInt8) (A B : Option Addr) (c d' : Nat) (w : World) (hra : Rd w A (a.map u8)) (hc : a.length ≤ c) (hrb : Rd w B (b.map u8)) (hd : b.length ≤ d') (ha : a.length ≤ 140737488355328) (hb : b.length ≤ 140737488355328) :
    Cal Tryz.prog 3 #[.slice A a.length c, .slice B b.length d'] w fun v w' => v = .bool true ∧ Nw w w' := by
  have hw : IntKind.i64.wrap ((a.length : Int) + (b.length : Int)) = ((a.length + b.length : Nat) : Int) := by rw [w64 (by omega) (by omega)]; omega
  obtain ⟨m, hm⟩ : ∃ m, m = a.length + b.length := ⟨_, rfl⟩
  rw [← hm] at hw
  refine enter Tryz.mixed Tryz.func3 rfl (by kernel_rfl) ?_
  by_cases h2 : 2000 < m
  · have h2' : (2000 : Int) < (m : Int) := by omega
    simp -dsimp [go_sem, hw, h2, h2']
    exact Kp.refl _ _
  have h2' : ¬ (2000 : Int) < (m : Int) := by omega
  simp -dsimp [go_sem, hw, h2, h2']
  refine call (new_spec 65536 w) ?_
  rintro v w2 (⟨hbad, _⟩ | ⟨hr0, hr1, d, F, rfl, hD, nF, hk2⟩)
  · omega
  simp -dsimp [go_sem]
  refine call (rnew_spec 65536 w2) ?_
  rintro v w3 (⟨hbad, _⟩ | ⟨_, _, x, G, rfl, hE, nG, hk3⟩)
  · omega
  have T3 : Pr w w3 (fun _ => False) d ⟨65536, [], none⟩ x ⟨65536, [], none⟩ := ⟨F, G, hD.nw hk3, hE, fun i hf hg => by have := nG i hg; have := hD.lt i hf; omega, fun i hi => ⟨nF i hi, fun h => h⟩, fun i hi => ⟨by have := nG i hi; have := hk2.size; omega, fun h => h⟩, hk2.nw hk3⟩
  by_cases ha0 : a.length = 0
  · have ha0' : ¬ (0 : Int) < (a.length : Int) := by omega
    have ha0n : ¬ 0 < a.length := by omega
    simp -dsimp [go_sem, ha0', ha0n]
    by_cases hl0 : b.length = 0
    · have hl0' : ¬ (0 : Int) < (b.length : Int) := by omega
      have hl0n : ¬ 0 < b.length := by omega
      simp -dsimp [go_sem, hl0', hl0n]
      obtain ⟨F9, G9, hF9, hG9, dj9, nF9, nG9, n9⟩ := id T3
      refine call (opened_spec d x _ F9 G9 _ hF9 hG9 dj9) ?_
      rintro u w8 ⟨⟨a8, b8, rfl⟩, hk8⟩
      have n8 := Nw.at_ n9 hk8 fun k hk => hk.elim (fun h => (nF9 k h).1) fun h => (nG9 k h).1
      simp -dsimp [go_sem]
      refine call (lgknown_spec w8) ?_
      rintro u w10 ⟨rfl, hk10⟩
      simp -dsimp [go_sem]
      exact n8.nw hk10
    · have hl0' : (0 : Int) < (b.length : Int) := by omega
      have hl0n : 0 < b.length := by omega
      simp -dsimp [go_sem, hl0', hl0n]
      have kb : Nw w3 (World.alloc w3 (.cells #[.slice B (List.length b) d'] 22)) := (Kp.refl _ _).alloc _
      have hrn := hrb.nw (Pr.on T3)
      have hsp := Pr.pappend T3 kb (fun i h => h.elim) [97, 45, 108, 111, 103] b (some ⟨(World.heap w3).size, 0, none⟩) 1 (Brs.one (p := b) (d := d') (Blk.fresh rfl) (fun h => h) (hrn.nw kb) (fun _ _ h => h) hd) (by omega) (by omega) (by simp)
      refine call hsp ?_
      rintro u w6 ⟨rfl, T6, hk6⟩
      simp -dsimp [go_sem]
      refine call (Pr.rappend T6 (Pr.ok T3) (Kp.refl _ _) (fun i h => h.elim) [97, 45, 108, 111, 103] b B d' (hrb.nw (Pr.on T6)) (fun F hF _ => Pr.off hrb hF) (by omega) (by simp)) ?_
      rintro u w7 ⟨rfl, T8, hk7⟩
      simp -dsimp [go_sem]
      obtain ⟨F9, G9, hF9, hG9, dj9, nF9, nG9, n9⟩ := id T8
      refine call (opened_spec d x _ F9 G9 _ hF9 hG9 dj9) ?_
      rintro u w8 ⟨⟨a8, b8, rfl⟩, hk8⟩
      have n8 := Nw.at_ n9 hk8 fun k hk => hk.elim (fun h => (nF9 k h).1) fun h => (nG9 k h).1
      simp -dsimp [go_sem]
      refine call (lgknown_spec w8) ?_
      rintro u w10 ⟨rfl, hk10⟩
      simp -dsimp [go_sem]
      exact n8.nw hk10
  · have ha0' : (0 : Int) < (a.length : Int) := by omega
    have ha0n : 0 < a.length := by omega
    simp -dsimp [go_sem, ha0', ha0n]
    have kb : Nw w3 (World.alloc w3 (.cells #[.slice A (List.length a) c] 22)) := (Kp.refl _ _).alloc _
    have hrn := hra.nw (Pr.on T3)
    have hsp := Pr.pappend T3 kb (fun i h => h.elim) [97, 45, 105, 109, 103] a (some ⟨(World.heap w3).size, 0, none⟩) 1 (Brs.one (p := a) (d := c) (Blk.fresh rfl) (fun h => h) (hrn.nw kb) (fun _ _ h => h) hc) (by omega) (by omega) (by simp)
    refine call hsp ?_
    rintro u w6 ⟨rfl, T6, hk6⟩
    simp -dsimp [go_sem]
    refine call (Pr.rappend T6 (Pr.ok T3) (Kp.refl _ _) (fun i h => h.elim) [97, 45, 105, 109, 103] a A c (hra.nw (Pr.on T6)) (fun F hF _ => Pr.off hra hF) (by omega) (by simp)) ?_
    rintro u w7 ⟨rfl, T5, hk7⟩
    by_cases hl0 : b.length = 0
    · have hl0' : ¬ (0 : Int) < (b.length : Int) := by omega
      have hl0n : ¬ 0 < b.length := by omega
      simp -dsimp [go_sem, hl0', hl0n]
      obtain ⟨F9, G9, hF9, hG9, dj9, nF9, nG9, n9⟩ := id T5
      refine call (opened_spec d x _ F9 G9 _ hF9 hG9 dj9) ?_
      rintro u w8 ⟨⟨a8, b8, rfl⟩, hk8⟩
      have n8 := Nw.at_ n9 hk8 fun k hk => hk.elim (fun h => (nF9 k h).1) fun h => (nG9 k h).1
      simp -dsimp [go_sem]
      refine call (lgknown_spec w8) ?_
      rintro u w10 ⟨rfl, hk10⟩
      simp -dsimp [go_sem]
      exact n8.nw hk10
    · have hl0' : (0 : Int) < (b.length : Int) := by omega
      have hl0n : 0 < b.length := by omega
      simp -dsimp [go_sem, hl0', hl0n]
      have kb : Nw w7 (World.alloc w7 (.cells #[.slice B (List.length b) d'] 22)) := (Kp.refl _ _).alloc _
      have hrn := hrb.nw (Pr.on T5)
      have hsp := Pr.pappend T5 kb (fun i h => h.elim) [97, 45, 108, 111, 103] b (some ⟨(World.heap w7).size, 0, none⟩) 1 (Brs.one (p := b) (d := d') (Blk.fresh rfl) (fun h => h) (hrn.nw kb) (fun _ _ h => h) hd) (by omega) (by omega) (by simp)
      refine call hsp ?_
      rintro u w6 ⟨rfl, T6, hk6⟩
      simp -dsimp [go_sem]
      refine call (Pr.rappend T6 (Pr.ok T5) (Kp.refl _ _) (fun i h => h.elim) [97, 45, 108, 111, 103] b B d' (hrb.nw (Pr.on T6)) (fun F hF _ => Pr.off hrb hF) (by omega) (by simp)) ?_
      rintro u w7 ⟨rfl, T8, hk7⟩
      simp -dsimp [go_sem]
      obtain ⟨F9, G9, hF9, hG9, dj9, nF9, nG9, n9⟩ := id T8
      refine call (opened_spec d x _ F9 G9 _ hF9 hG9 dj9) ?_
      rintro u w8 ⟨⟨a8, b8, rfl⟩, hk8⟩
      have n8 := Nw.at_ n9 hk8 fun k hk => hk.elim (fun h => (nF9 k h).1) fun h => (nG9 k h).1
      simp -dsimp [go_sem]
      refine call (lgknown_spec w8) ?_
      rintro u w10 ⟨rfl, hk10⟩
      simp -dsimp [go_sem]
      exact n8.nw hk10
end Go.Proofs.YthonmjgagblogaaGreat

