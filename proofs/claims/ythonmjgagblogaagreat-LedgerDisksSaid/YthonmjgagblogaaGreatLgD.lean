/-
  A ledger: takes walked. By the session itself.
-/
import Derived.Test.YthonmjgagblogaaGreatLgC
import Derived.Test.YthonmjgagblogaaGreatVd
namespace Go.Proofs.YthonmjgagblogaaGreat
set_option linter.unusedSimpArgs false
set_option linter.unusedVariables false
set_option maxRecDepth 100000
set_option maxHeartbeats 1000000
open Go.Vc Go.RowKit

/-- An entry more. -/
theorem lg_push {w w2 : World} {l g : Nat} {p : Nm} {L : Led} {G V : Nat → Prop} {B A A2 X : Option Addr} {d c c2 n2 x : Nat} {vs : List Value} {e : List UInt8}
    (hb : Blk w l 71 #[.pointer (some ⟨g, 0, none⟩), str p, i64 L.base, .slice B L.data.length d, .slice A L.ents.length c, .bool L.dead]) (hr : Rd w B (L.data.map u8)) (ho : Ofl B (L.data.map u8) V) (hd : L.data.length ≤ d) (hA : Ow w 22 1 A L.ents.length c vs) (hv : RV w vs L.ents V)
    (hAl : Off A (At l)) (h1 : ∀ k, k = l ∨ blk A k → G k) (h2 : ∀ k, G k → V k) (h3 : ∀ k, V k → k < w.heap.size)
    (hA2 : Ow w2 22 1 A2 n2 c2 (vs ++ [.slice X e.length x])) (hn2 : n2 = L.ents.length + 1) (hK : Kp (blk A) w w2) (hAA : ∀ k, blk A2 k → blk A k ∨ w.heap.size ≤ k) (hrX : Rd w X (e.map u8)) (hoX : Ofl X (e.map u8) V) (hdX : e.length ≤ x) :
    Lg (w2.setCell ⟨l, 4, none⟩ (.slice A2 n2 c2)) l g p { L with ents := L.ents ++ [e] } (fun k => G k ∨ blk A2 k) (fun k => V k ∨ blk A2 k) ∧ Gr G (fun k => G k ∨ blk A2 k) w (w2.setCell ⟨l, 4, none⟩ (.slice A2 n2 c2)) ∧ Gr V (fun k => V k ∨ blk A2 k) w (w2.setCell ⟨l, 4, none⟩ (.slice A2 n2 c2)) ∧ Kp G w (w2.setCell ⟨l, 4, none⟩ (.slice A2 n2 c2)) := by
  subst hn2
  have hGl : G l := h1 _ (.inl rfl)
  have ks : Kp (At l) w2 (w2.setCell ⟨l, 4, none⟩ (.slice A2 (L.ents.length + 1) c2)) := (Kp.refl _ _).setCell_at _ _
  have kG : Kp G w (w2.setCell ⟨l, 4, none⟩ (.slice A2 (L.ents.length + 1) c2)) := (hK.mono fun i _ hi => h1 i (.inr hi)).trans ks fun i _ (e : i = l) => e ▸ hGl
  have hA2l : ∀ k, blk A2 k → k < (w2.setCell ⟨l, 4, none⟩ (.slice A2 (L.ents.length + 1) c2)).heap.size := fun k hk => by
    obtain ⟨a, ha, rfl⟩ := blk_of hk
    exact Nat.lt_of_lt_of_le (hA2.lt a ha) ks.size
  have hlw := h3 l (h2 l hGl)
  have hA2n : Off A2 (At l) := Off.of_blk fun k hk (e : k = l) => by
    rcases hAA k hk with h | h
    · obtain ⟨a, ha, e2⟩ := blk_of h
      exact hAl a ha (by show a.block = l; omega)
    · omega
  have gG : Gr G (fun k => G k ∨ blk A2 k) w (w2.setCell ⟨l, 4, none⟩ (.slice A2 (L.ents.length + 1) c2)) := fun k hk => by
    rcases hk with h | h
    · exact .inl h
    · exact (hAA k h).imp (fun e => h1 k (.inr e)) fun e => ⟨e, hA2l k h⟩
  have gV : Gr V (fun k => V k ∨ blk A2 k) w (w2.setCell ⟨l, 4, none⟩ (.slice A2 (L.ents.length + 1) c2)) := fun k hk => by
    rcases hk with h | h
    · exact .inl h
    · exact (hAA k h).imp (fun e => h2 k (h1 k (.inr e))) fun e => ⟨e, hA2l k h⟩
  have kV : Kp V w (w2.setCell ⟨l, 4, none⟩ (.slice A2 (L.ents.length + 1) c2)) := kG.mono fun i _ hi => h2 i hi
  refine ⟨⟨B, d, A2, c2, _, ?_, hr.kp kV ho, ho.gr hr gV, hd, ?_, (hv.append (RV.one hrX hoX hdX)).gr kV gV, hA2n, fun k hk => ?_, fun k hk => hk.imp (h2 k) id, fun k hk => ?_⟩, gG, gV, kG⟩
  · have := (hb.kp hK fun e => by obtain ⟨a, ha, e2⟩ := blk_of e; exact hAl a ha e2).set 4 (.slice A2 (L.ents.length + 1) c2)
    simpa using this
  · have := hA2.kp ks hA2n
    simpa using this
  · rcases hk with rfl | hk
    · exact .inl hGl
    · exact .inr hk
  · rcases gV k hk with h | h
    · exact Nat.lt_of_lt_of_le (h3 k h) kV.size
    · exact h.2
theorem numL_le (l : List UInt8) (bad : Bool) : (numL l bad).1 ≤ 4611686018427387904 := by
  unfold numL
  split
  · rename_i u r h; exact (takeN_len l _ _ _ _ h).2
  · simp
theorem bytL_len (l : List UInt8) (bad : Bool) : (bytL l bad).1.length ≤ l.length := by
  have := numL_len l bad
  unfold bytL rawL
  split
  · simp only [List.length_take]; omega
  · simp
/-- What taking a record comes to in memory. -/
def TakeR (w w' : World) (l g t : Nat) (p : Nm) (L : Led) (G V : Nat → Prop) (q : Int × List (List UInt8)) : Prop :=
  ∃ G' V', Lg w' l g p { L with ents := q.2 } G' V' ∧ Blk w' t 108 #[.pointer (some ⟨l, 0, none⟩), i64 q.1] ∧ Gr G G' w w' ∧ Gr V V' w w' ∧ ∀ i, V i → V' i
def TakeO (w w' : World) (l g t : Nat) (p : Nm) (L : Led) (G V : Nat → Prop) (o : Option (Int × List (List UInt8))) : Prop := ∀ q, o = some q → TakeR w w' l g t p L G V q
theorem TakeO.none {w w' : World} {l g t : Nat} {p : Nm} {L : Led} {G V : Nat → Prop} : TakeO w w' l g t p L G V none := fun q h => by cases h
theorem TakeO.some {w w' : World} {l g t : Nat} {p : Nm} {L : Led} {G V : Nat → Prop} {q : Int × List (List UInt8)} (h : TakeR w w' l g t p L G V q) : TakeO w w' l g t p L G V (some q) := fun r e => by cases e; exact h
theorem takes_spec (t l g : Nat) (p : Nm) (L : Led) (G V : Nat → Prop) (last : Int) (b : List UInt8) (X : Option Addr) (x : Nat) (w : World) (h : Lg w l g p L G V) (ok : L.Ok) (hT : Blk w t 108 #[.pointer (some ⟨l, 0, none⟩), i64 last]) (htV : V t) (htG : ¬ G t)
    (hr : Rd w X (b.map u8)) (hb : b.length ≤ 1073741824) (hl1 : -1 ≤ last) (hl2 : last ≤ 1099511627776) :
    Cal Tryz.prog 62 #[.pointer (some ⟨t, 0, none⟩), .slice X b.length x] w fun v w' => v = .bool (takeP L.base last L.ents b).isSome ∧ Kp (fun k => G k ∨ k = t) w w' ∧ TakeO w w' l g t p L G V (takeP L.base last L.ents b) := by
  have e0 : takeP L.base last L.ents b = if (numRow b).1 = false ∨ (numRow b).2.1 < 1 ∨ 1099511627776 < (numRow b).2.1 ∨ (0 ≤ last ∧ ((numRow b).2.1 : Int) ≠ last + 1) then none
    else if (numRow b).2.1 ≤ L.base then some (((numRow b).2.1 : Int), L.ents) else if (numRow b).2.1 ≠ L.base + L.ents.length + 1 then none else some (((numRow b).2.1 : Int), L.ents ++ [(numRow b).2.2]) := rfl
  have en : numRow b = (!(bytL (numL b false).2.1 (numL b false).2.2).2.2 && (bytL (numL b false).2.1 (numL b false).2.2).2.1.isEmpty, (numL b false).1, (bytL (numL b false).2.1 (numL b false).2.2).1) := rfl
  rw [en] at e0
  simp only at e0
  have hnle := numL_le b false
  have hnl := numL_len b false
  have hbl := bytL_len (numL b false).2.1 (numL b false).2.2
  refine enter Tryz.mixed Tryz.func62 rfl (by kernel_rfl) ?_
  simp -dsimp [go_sem]
  refine call (newReader_spec X x b w hr (by omega)) ?_
  rintro v w1 ⟨r, rfl, hrr, ⟨FR, hRd, hFR⟩, hk1⟩
  simp -dsimp [go_sem]
  refine call (num_spec r b false FR w1 hRd (by omega)) ?_
  rintro v w2 ⟨rfl, hRd2, hk2⟩
  simp -dsimp [go_sem]
  refine call (rBytes_spec r _ _ FR w2 hRd2 (by omega)) ?_
  rintro v w3 ⟨hB3, hRd3, hk3⟩
  have n2 : Nw w w2 := hk1.at_ hk2 fun k (e : k = r) => by omega
  have n3 : Nw w w3 := n2.at_ hk3 fun k (e : k = r) => by omega
  obtain ⟨Y, y, rfl, hoY, hY⟩ := id hB3
  generalize (bytL (numL b false).2.1 (numL b false).2.2).2.2 = bad at *
  generalize (bytL (numL b false).2.1 (numL b false).2.2).2.1 = rest at *
  generalize (bytL (numL b false).2.1 (numL b false).2.2).1 = ent at *
  generalize (numL b false).1 = n at *
  have hT3 := hT.nw n3
  have t0 : w3.cell? ⟨t, 0, none⟩ = some (.pointer (some ⟨l, 0, none⟩)) := hT3.cell 0
  have t1 : w3.cell? ⟨t, 1, none⟩ = some (i64 last) := hT3.cell 1
  have tf := hT3.frozen 1
  have kn3 := Nw.kp n3 (fun k => G k ∨ k = t)
  have lg3 := h.nw n3
  have l2 := lg3.c2
  simp -dsimp [go_sem]
  refine call (whole_spec r rest bad FR w3 hRd3) ?_
  rintro u w4 ⟨rfl, rfl⟩
  cases hwh : (!bad && rest.isEmpty) with
  | false =>
    rw [hwh, if_pos (.inl rfl)] at e0
    rw [e0]
    simp -dsimp [go_sem]
    exact ⟨kn3, TakeO.none⟩
  | true =>
    rw [hwh] at e0
    by_cases h1 : n < 1
    · rw [if_pos (.inr (.inl h1))] at e0
      have h1' : (n : Int) < 1 := by omega
      rw [e0]
      simp -dsimp [go_sem, h1, h1']
      exact ⟨kn3, TakeO.none⟩
    have h1' : ¬ (n : Int) < 1 := by omega
    by_cases h2 : 1099511627776 < n
    · rw [if_pos (.inr (.inr (.inl h2)))] at e0
      have h2' : (1099511627776 : Int) < (n : Int) := by omega
      rw [e0]
      simp -dsimp [go_sem, h1, h1', h2, h2']
      exact ⟨kn3, TakeO.none⟩
    have h2' : ¬ (1099511627776 : Int) < (n : Int) := by omega
    have hw1 : IntKind.i64.wrap (last + 1) = last + 1 := w64 (by omega) (by omega)
    by_cases h3 : 0 ≤ last ∧ (n : Int) ≠ last + 1
    · rw [if_pos (.inr (.inr (.inr h3)))] at e0
      have h3' : ((n : Int) != last + 1) = true := by simpa using h3.2
      rw [e0]
      simp -dsimp [go_sem, h1, h1', h2, h2', t1, h3.1, hw1, h3']
      exact ⟨kn3, TakeO.none⟩
    rw [if_neg (by simp; omega)] at e0
    by_cases h4 : 0 ≤ last
    · have h4' : ((n : Int) != last + 1) = false := by simp; omega
      simp -dsimp [go_sem, h1, h1', h2, h2', t0, t1, tf, h4, hw1, h4']
      have ks : Kp (At t) w3 (w3.setCell ⟨t, 1, none⟩ (i64 n)) := (Kp.refl _ _).setCell_at _ _
      have hT5 : Blk (w3.setCell ⟨t, 1, none⟩ (i64 n)) t 108 #[.pointer (some ⟨l, 0, none⟩), i64 n] := by simpa using hT3.set 1 (i64 n)
      have lg5 := lg3.kp ks fun i (e : i = t) => e ▸ ⟨htV, htG⟩
      have kn5 : Kp (fun k => G k ∨ k = t) w (w3.setCell ⟨t, 1, none⟩ (i64 n)) := kn3.trans ks fun k _ (e : k = t) => .inr e
      simp -dsimp [go_sem, l2]
      by_cases h5 : n ≤ L.base
      · rw [if_pos h5] at e0
        have h5' : (n : Int) ≤ (L.base : Int) := by omega
        rw [e0]
        simp -dsimp [go_sem, h5, h5']
        exact ⟨kn5, TakeO.some ⟨G, V, lg5, hT5, fun k hk => .inl hk, fun k hk => .inl hk, fun k hk => hk⟩⟩
      have h5' : ¬ (n : Int) ≤ (L.base : Int) := by omega
      rw [if_neg h5] at e0
      simp -dsimp [go_sem, h5, h5', t0]
      generalize w3.setCell ⟨t, 1, none⟩ (i64 n) = w5 at *
      refine call (last_spec l g p L G V w5 lg5 ok) ?_
      rintro v w6 ⟨rfl, hk6⟩
      have hll := ok.last
      have hlast : L.last = L.base + L.ents.length := rfl
      have hw2 : IntKind.i64.wrap ((L.last : Int) + 1) = ((L.last + 1 : Nat) : Int) := by rw [w64 (by omega) (by omega)]; omega
      obtain ⟨m, hm⟩ : ∃ m, m = L.last + 1 := ⟨_, rfl⟩
      rw [← hm] at hw2
      by_cases h6 : n = m
      · subst h6
        have h6b : ((n : Int) != (n : Int)) = false := by simp
        rw [if_neg (by omega)] at e0
        have lg6 := lg5.nw hk6
        have hT6 := hT5.nw hk6
        have kn6 : Kp (fun k => G k ∨ k = t) w w6 := kn5.nw hk6
        have s0 : w6.cell? ⟨t, 0, none⟩ = some (.pointer (some ⟨l, 0, none⟩)) := hT6.cell 0
        obtain ⟨B, d, A, c, vs, hb6, hr6, ho6, hd6, hA6, hv6, hAl, g1, g2, g3⟩ := id lg6
        have l4 : w6.cell? ⟨l, 4, none⟩ = some (.slice A L.ents.length c) := hb6.cell 4
        have kd : Kp (blk A) w6 w6.drew := (Kp.refl _ _).drew
        have htA : ¬ blk A t := fun e => htG (g1 t (.inr e))
        have hlA : ¬ blk A l := fun e => by obtain ⟨a, ha, e2⟩ := blk_of e; exact hAl a ha e2
        have s0d := kd.cell_some s0 htA
        have l4d := kd.cell_some l4 hlA
        have hGl : G l := g1 l (.inl rfl)
        have hYV : ∀ k, blk Y k → w2.heap.size ≤ k := fun k hk => by
          obtain ⟨a, ha, rfl⟩ := blk_of hk
          exact hY a ha
        have hVw : ∀ k, V k → k < w2.heap.size := fun k hk => by have := h.lt k hk; have := n2.size; omega
        have hY6 : Rd w6 Y (ent.map u8) := ((hoY.kp ks (Off.of_blk fun k hk (e : k = t) => by have := hYV k hk; have := hVw t htV; omega)).nw hk6).rd
        simp -dsimp [go_sem, hw2, h6b]
        refine drawD (.take 0 (.take 1 (.take 2 (.take 3 (.take 4 (.take 5 (.take 6 (.take 7 (.take 8 (.take 9 (.take 10 (.take 11 (.alt 12 (.alt 13 (.alt 14 (.alt 15 (.alt 16 .done .stop) .stop) .stop) .stop) .stop))))))))))))) 16 (by kernel_rfl) (fun wz => Kp (blk A) w6 wz) kd ?_
        simp -dsimp [go_sem, s0d, l4d]
        have kb : Nw w6 (w6.alloc (.cells #[.slice Y ent.length y] 22)).drew := ((Kp.refl _ _).alloc _).drew
        refine ⟨fun wz hz => by simp [hz.cell_some s0 htA], fun wz hz => by simp [hz.cell_some l4 hlA], Nw.kp kb _, ?_⟩
        refine app Tryz.Srows (hA6.nw kb) (ys := [.slice Y ent.length y]) ((Rd.fresh (w := w6) rfl rfl).nw ((Kp.refl _ _).drew)) (m := 1) rfl (by simp [Value.oneCell']) (by omega) (by omega) ?_
        intro A7 c7 w7 ho7 hk7 hAA7
        have hk67 : Kp (blk A) w6 w7 := (Nw.kp kb _).trans hk7 fun _ _ h => h
        refine ⟨.inr hk67, ?_⟩
        have hA7 : ∀ k, blk A7 k → blk A k ∨ w6.heap.size ≤ k := fun k hk => by
          rcases hAA7 with rfl | ⟨rfl, _⟩
          · exact .inl hk
          · right
            rw [show k = _ from hk]
            exact kb.size
        obtain ⟨lg8, gG, gV, kG⟩ := lg_push (e := ent) hb6 hr6 ho6 hd6 hA6 hv6 hAl g1 g2 g3 ho7 rfl hk67 hA7 hY6 (fun a ha _ hv => by have := hYV a.block (by rw [ha]; rfl); have := hVw _ hv; omega) hoY.2.1
        obtain ⟨n7, hn7⟩ : ∃ n7, n7 = L.ents.length + 1 := ⟨_, rfl⟩
        rw [← hn7] at lg8 gG gV kG ⊢
        have l47 := hk67.cell_some l4 hlA
        have lf7 := (hb6.kp hk67 hlA).frozen 4
        simp -dsimp [go_sem, l47, lf7]
        rw [e0]
        have hT8 := hT6.kp kG htG
        have hsz : w.heap.size ≤ w6.heap.size := kn6.size
        refine ⟨hk67, by simp, kn6.trans kG fun k _ h => .inl h, TakeO.some ?_⟩
        exact ⟨_, _, lg8, hT8, Gr.wide gG hsz (Nat.le_refl _), Gr.wide gV hsz (Nat.le_refl _), fun k hk => .inl hk⟩
      · have h6b : ((n : Int) != (m : Int)) = true := by simp; omega
        rw [if_pos (by omega)] at e0
        rw [e0]
        simp -dsimp [go_sem, hw2, h6b]
        exact ⟨kn5.nw hk6, TakeO.none⟩
    · simp -dsimp [go_sem, h1, h1', h2, h2', t0, t1, tf, h4]
      have ks : Kp (At t) w3 (w3.setCell ⟨t, 1, none⟩ (i64 n)) := (Kp.refl _ _).setCell_at _ _
      have hT5 : Blk (w3.setCell ⟨t, 1, none⟩ (i64 n)) t 108 #[.pointer (some ⟨l, 0, none⟩), i64 n] := by simpa using hT3.set 1 (i64 n)
      have lg5 := lg3.kp ks fun i (e : i = t) => e ▸ ⟨htV, htG⟩
      have kn5 : Kp (fun k => G k ∨ k = t) w (w3.setCell ⟨t, 1, none⟩ (i64 n)) := kn3.trans ks fun k _ (e : k = t) => .inr e
      simp -dsimp [go_sem, l2]
      by_cases h5 : n ≤ L.base
      · rw [if_pos h5] at e0
        have h5' : (n : Int) ≤ (L.base : Int) := by omega
        rw [e0]
        simp -dsimp [go_sem, h5, h5']
        exact ⟨kn5, TakeO.some ⟨G, V, lg5, hT5, fun k hk => .inl hk, fun k hk => .inl hk, fun k hk => hk⟩⟩
      have h5' : ¬ (n : Int) ≤ (L.base : Int) := by omega
      rw [if_neg h5] at e0
      simp -dsimp [go_sem, h5, h5', t0]
      generalize w3.setCell ⟨t, 1, none⟩ (i64 n) = w5 at *
      refine call (last_spec l g p L G V w5 lg5 ok) ?_
      rintro v w6 ⟨rfl, hk6⟩
      have hll := ok.last
      have hlast : L.last = L.base + L.ents.length := rfl
      have hw2 : IntKind.i64.wrap ((L.last : Int) + 1) = ((L.last + 1 : Nat) : Int) := by rw [w64 (by omega) (by omega)]; omega
      obtain ⟨m, hm⟩ : ∃ m, m = L.last + 1 := ⟨_, rfl⟩
      rw [← hm] at hw2
      by_cases h6 : n = m
      · subst h6
        have h6b : ((n : Int) != (n : Int)) = false := by simp
        rw [if_neg (by omega)] at e0
        have lg6 := lg5.nw hk6
        have hT6 := hT5.nw hk6
        have kn6 : Kp (fun k => G k ∨ k = t) w w6 := kn5.nw hk6
        have s0 : w6.cell? ⟨t, 0, none⟩ = some (.pointer (some ⟨l, 0, none⟩)) := hT6.cell 0
        obtain ⟨B, d, A, c, vs, hb6, hr6, ho6, hd6, hA6, hv6, hAl, g1, g2, g3⟩ := id lg6
        have l4 : w6.cell? ⟨l, 4, none⟩ = some (.slice A L.ents.length c) := hb6.cell 4
        have kd : Kp (blk A) w6 w6.drew := (Kp.refl _ _).drew
        have htA : ¬ blk A t := fun e => htG (g1 t (.inr e))
        have hlA : ¬ blk A l := fun e => by obtain ⟨a, ha, e2⟩ := blk_of e; exact hAl a ha e2
        have s0d := kd.cell_some s0 htA
        have l4d := kd.cell_some l4 hlA
        have hGl : G l := g1 l (.inl rfl)
        have hYV : ∀ k, blk Y k → w2.heap.size ≤ k := fun k hk => by
          obtain ⟨a, ha, rfl⟩ := blk_of hk
          exact hY a ha
        have hVw : ∀ k, V k → k < w2.heap.size := fun k hk => by have := h.lt k hk; have := n2.size; omega
        have hY6 : Rd w6 Y (ent.map u8) := ((hoY.kp ks (Off.of_blk fun k hk (e : k = t) => by have := hYV k hk; have := hVw t htV; omega)).nw hk6).rd
        simp -dsimp [go_sem, hw2, h6b]
        refine drawD (.take 0 (.take 1 (.take 2 (.take 3 (.take 4 (.take 5 (.take 6 (.take 7 (.take 8 (.take 9 (.take 10 (.take 11 (.alt 12 (.alt 13 (.alt 14 (.alt 15 (.alt 16 .done .stop) .stop) .stop) .stop) .stop))))))))))))) 16 (by kernel_rfl) (fun wz => Kp (blk A) w6 wz) kd ?_
        simp -dsimp [go_sem, s0d, l4d]
        have kb : Nw w6 (w6.alloc (.cells #[.slice Y ent.length y] 22)).drew := ((Kp.refl _ _).alloc _).drew
        refine ⟨fun wz hz => by simp [hz.cell_some s0 htA], fun wz hz => by simp [hz.cell_some l4 hlA], Nw.kp kb _, ?_⟩
        refine app Tryz.Srows (hA6.nw kb) (ys := [.slice Y ent.length y]) ((Rd.fresh (w := w6) rfl rfl).nw ((Kp.refl _ _).drew)) (m := 1) rfl (by simp [Value.oneCell']) (by omega) (by omega) ?_
        intro A7 c7 w7 ho7 hk7 hAA7
        have hk67 : Kp (blk A) w6 w7 := (Nw.kp kb _).trans hk7 fun _ _ h => h
        refine ⟨.inr hk67, ?_⟩
        have hA7 : ∀ k, blk A7 k → blk A k ∨ w6.heap.size ≤ k := fun k hk => by
          rcases hAA7 with rfl | ⟨rfl, _⟩
          · exact .inl hk
          · right
            rw [show k = _ from hk]
            exact kb.size
        obtain ⟨lg8, gG, gV, kG⟩ := lg_push (e := ent) hb6 hr6 ho6 hd6 hA6 hv6 hAl g1 g2 g3 ho7 rfl hk67 hA7 hY6 (fun a ha _ hv => by have := hYV a.block (by rw [ha]; rfl); have := hVw _ hv; omega) hoY.2.1
        obtain ⟨n7, hn7⟩ : ∃ n7, n7 = L.ents.length + 1 := ⟨_, rfl⟩
        rw [← hn7] at lg8 gG gV kG ⊢
        have l47 := hk67.cell_some l4 hlA
        have lf7 := (hb6.kp hk67 hlA).frozen 4
        simp -dsimp [go_sem, l47, lf7]
        rw [e0]
        have hT8 := hT6.kp kG htG
        have hsz : w.heap.size ≤ w6.heap.size := kn6.size
        refine ⟨hk67, by simp, kn6.trans kG fun k _ h => .inl h, TakeO.some ?_⟩
        exact ⟨_, _, lg8, hT8, Gr.wide gG hsz (Nat.le_refl _), Gr.wide gV hsz (Nat.le_refl _), fun k hk => .inl hk⟩
      · have h6b : ((n : Int) != (m : Int)) = true := by simp; omega
        rw [if_pos (by omega)] at e0
        rw [e0]
        simp -dsimp [go_sem, hw2, h6b]
        exact ⟨kn5.nw hk6, TakeO.none⟩
end Go.Proofs.YthonmjgagblogaaGreat
