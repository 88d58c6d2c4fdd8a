/-
  LedgerApart walked. By the session itself.
-/
import Derived.Test.YthonmjgagblogaaLgT
namespace Go.Proofs.Ythonmjgagblogaa
set_option linter.unusedSimpArgs false
set_option linter.unusedVariables false
set_option maxRecDepth 100000
set_option maxHeartbeats 2000000
open Go.Vc Go.RowKit

/-- Two ledgers on one disk. -/
def L2 (w0 w : World) (g : Nat) (D : Dsk) (l1 : Nat) (p1 : Nm) (L1 : Led) (l2 : Nat) (p2 : Nm) (M : Led) : Prop := ∃ F G1 G2 V, LS w l1 g p1 D L1 F G1 V ∧ LS w l2 g p2 D M F G2 V ∧ (∀ k, G1 k → ¬ G2 k) ∧ L1.Ok ∧ M.Ok ∧ (∀ k, V k → w0.heap.size ≤ k) ∧ Nw w0 w
section
variable {w0 w w1 : World} {g l1 l2 : Nat} {p1 p2 : Nm} {D D' : Dsk} {L1 L1' M : Led}
theorem L2.nw (T : L2 w0 w g D l1 p1 L1 l2 p2 M) (k : Nw w w1) : L2 w0 w1 g D l1 p1 L1 l2 p2 M := by
  obtain ⟨F, G1, G2, V, a1, a2, dj, o1, o2, h3, h4⟩ := T
  exact ⟨F, G1, G2, V, a1.nw k, a2.nw k, dj, o1, o2, h3, h4.nw k⟩
theorem L2.sw (T : L2 w0 w g D l1 p1 L1 l2 p2 M) : L2 w0 w g D l2 p2 M l1 p1 L1 := by
  obtain ⟨F, G1, G2, V, a1, a2, dj, o1, o2, h3, h4⟩ := T
  exact ⟨F, G2, G1, V, a2, a1, fun k h2 h1 => dj k h1 h2, o2, o1, h3, h4⟩
theorem L2.lw (T : L2 w0 w g D l1 p1 L1 l2 p2 M) : Lw w0 w l1 g p1 D L1 := by
  obtain ⟨F, G1, G2, V, a1, a2, dj, o1, o2, h3, h4⟩ := T
  exact ⟨F, G1, V, a1, o1, h3, h4⟩
theorem L2.step {k : FuncId} {args : Array Value} {u : Value} (T : L2 w0 w g D l1 p1 L1 l2 p2 M) (k1 : Nw w w1) (ok : L1'.Ok)
    (h : ∀ F G V, LS w l1 g p1 D L1 F G V → LS w1 l1 g p1 D L1 F G V → (∀ k, V k → w0.heap.size ≤ k) → Cal Try.prog k args w1 fun v w' => v = u ∧ ChR w1 w' l1 g p1 D' L1' F G V) : Cal Try.prog k args w1 fun v w' => v = u ∧ L2 w0 w' g D' l1 p1 L1' l2 p2 M := by
  obtain ⟨F, G1, G2, V, a1, a2, dj, o1, o2, h3, h4⟩ := T
  refine (h F G1 V a1 (a1.nw k1) h3).mono ?_
  rintro v w' ⟨hv, F', G1', V', b1, ch⟩
  have a2 := a2.nw k1
  have n1 := h4.nw k1
  refine ⟨hv, F', G1', G2, V', b1, ⟨b1.dk, a2.lg.step ch.kp (fun i hi => ⟨hi.elim (a1.fv i) (a1.lg.gv i), fun hg => hi.elim (fun e => a2.dj i e hg) (fun e => dj i e hg)⟩) ch.gV ch.vv, b1.fv, fun i hf hg => (ch.gF i hf).elim (fun e => a2.dj i e hg) (fun e => by have := a2.lg.lt i (a2.lg.gv i hg); omega)⟩, fun i h1 h2 => (ch.gG i h1).elim (fun e => dj i e h2) (fun e => by have := a2.lg.lt i (a2.lg.gv i h2); omega), ok, o2, fun k hk => (ch.gV k hk).elim (h3 k) fun e => Nat.le_trans n1.size e.1, n1.at_ ch.kp fun k hk => hk.elim (fun e => h3 k (a1.fv k e)) fun e => h3 k (a1.lg.gv k e)⟩
theorem L2.ok1 (T : L2 w0 w g D l1 p1 L1 l2 p2 M) : L1.Ok := T.lw.lok
theorem own_ofl {X : Option Addr} {b : List UInt8} {V : Nat → Prop} (hX : ∀ k, blk X k → w.heap.size ≤ k) (hV : ∀ k, V k → k < w.heap.size) : Ofl X (b.map u8) V := by
  intro a ha _ hv
  have e1 := hX a.block (by rw [ha]; rfl)
  have e2 := hV _ hv
  omega
theorem L2.append (T : L2 w0 w g D l1 p1 L1 l2 p2 M) (hp : p1.length ≤ 20) (k1 : Nw w w1) (b : List UInt8) (X : Option Addr) (x : Nat) (hr : Rd w1 X (b.map u8)) (hX : ∀ k, blk X k → w.heap.size ≤ k) (hx : b.length ≤ x) (hb : b.length ≤ 140737488355328) :
    Cal Try.prog 41 #[.pointer (some ⟨l1, 0, none⟩), .slice X b.length x] w1 fun v w' => v = .tuple #[i64 (lApp D p1 L1 b).2.2.1, i64 (lApp D p1 L1 b).2.2.2] ∧ L2 w0 w' g (lApp D p1 L1 b).1 l1 p1 (lApp D p1 L1 b).2.1 l2 p2 M :=
  T.step k1 (lApp_ok T.ok1 D p1 b) fun F G V h0 h1 _ => lapp_spec l1 g p1 D L1 F G V b X x w1 h1 hp T.ok1 hr (own_ofl hX h0.lg.lt) hx hb
theorem L2.write (T : L2 w0 w g D l1 p1 L1 l2 p2 M) (hp : p1.length ≤ 20) (k1 : Nw w w1) (n : Int) (b : List UInt8) (X : Option Addr) (x : Nat) (hr : Rd w1 X (b.map u8)) (hX : ∀ k, blk X k → w.heap.size ≤ k) (hx : b.length ≤ x) (hb : b.length ≤ 140737488355328) :
    Cal Try.prog 42 #[.pointer (some ⟨l1, 0, none⟩), i64 n, .slice X b.length x] w1 fun v w' => v = i64 (lWrite D p1 L1 n b).2.2 ∧ L2 w0 w' g (lWrite D p1 L1 n b).1 l1 p1 (lWrite D p1 L1 n b).2.1 l2 p2 M :=
  T.step k1 (lWrite_ok T.ok1 D p1 n b) fun F G V h0 h1 _ => lwrite_spec l1 g p1 D L1 F G V n b X x w1 h1 hp T.ok1 hr (own_ofl hX h0.lg.lt) hx hb
theorem lDrop_ok (ok : L1.Ok) (D : Dsk) (p : Nm) : Led.Ok (lDrop D p L1).2.1 := by
  unfold lDrop
  split
  · exact ok
  · exact ⟨ok.last, ok.data, ok.ents⟩
theorem L2.drop (T : L2 w0 w g D l1 p1 L1 l2 p2 M) (hp : p1.length ≤ 20) :
    Cal Try.prog 43 #[.pointer (some ⟨l1, 0, none⟩)] w fun v w' => v = i64 (lDrop D p1 L1).2.2 ∧ L2 w0 w' g (lDrop D p1 L1).1 l1 p1 (lDrop D p1 L1).2.1 l2 p2 M :=
  T.step (Kp.refl _ _) (lDrop_ok T.ok1 D p1) fun F G V h0 h1 _ => ldrop_spec l1 g p1 D L1 F G V w h1 hp
theorem Lg.wide0 {l : Nat} {p : Nm} {G V V' : Nat → Prop} (h : Lg w l g p Led.zero G V) (hV : ∀ k, V k → V' k) (hl : ∀ k, V' k → k < w.heap.size) : Lg w l g p Led.zero G V' := by
  obtain ⟨B, d, A, c, vs, hb, hr, ho, hd, hA, hv, hAl, h1, h2, h3⟩ := h
  exact ⟨B, d, A, c, vs, hb, hr, fun a ha hx => absurd rfl hx, hd, hA, ⟨hv.1, fun i hi => absurd hi (Nat.not_lt_zero i)⟩, hAl, h1, fun k hk => hV k (h2 k hk), hl⟩
/-- A second ledger, opened: there is nothing of it. -/
theorem L2.of_open {F G V : Nat → Prop} {v : Value} (h : LS w l1 g p1 D L1 F G V) (ok : L1.Ok) (h3 : ∀ k, V k → w0.heap.size ≤ k) (h4 : Nw w0 w) (hO : OpenR w w1 v g p2 (D', 0, Led.zero) F) : ∃ l2, v = .tuple #[.pointer (some ⟨l2, 0, none⟩), i64 0] ∧ L2 w0 w1 g D' l1 p1 L1 l2 p2 Led.zero := by
  obtain ⟨F', hD, hG, hK, (⟨h1, _⟩ | ⟨_, l2, G2, V2, hv, hL, ok2, hV⟩)⟩ := hO
  · exact absurd rfl h1
  have gV : Gr V (fun i => V i ∨ V2 i) w w1 := fun i hi => hi.elim .inl fun e => (hV i e).imp (h.fv i) id
  have hsz := hK.size
  refine ⟨l2, hv, F', G, G2, fun i => V i ∨ V2 i, ⟨hD, h.lg.step hK (fun i hi => ⟨h.fv i hi, h.dj i hi⟩) gV fun i hi => .inl hi, fun i hi => .inr (hL.fv i hi), fun i hf hg => (hG i hf).elim (fun e => h.dj i e hg) fun e => by have := h.lg.lt i (h.lg.gv i hg); omega⟩,
    ⟨hD, hL.lg.wide0 (fun k hk => .inr hk) fun k hk => hk.elim (fun e => by have := h.lg.lt k e; omega) (hL.lg.lt k), fun i hi => .inr (hL.fv i hi), hL.dj⟩, fun i hg h2 => ?_, ok, ok2, fun k hk => (gV k hk).elim (h3 k) fun e => Nat.le_trans h4.size e.1, h4.at_ hK fun k hk => h3 k (h.fv k hk)⟩
  have hlt := h.lg.lt i (h.lg.gv i hg)
  exact (hV i (hL.lg.gv i h2)).elim (fun e => h.dj i e hg) fun e => by omega
end
theorem kW1_free {D : Dsk} {s : Nm} (hl : D.left = none) (hs : badN s = false) : kW1 D s = ({ D with fs := tGone D.fs s }, 0) := by
  cases hx : tLook D.fs s with
  | none => rw [kW1_none hx, gone_none hx]
  | some x => rw [kW1_some hx, step_free fRemove hl hl hs hx]; rfl
theorem lDrop_free {D : Dsk} {p : Nm} {L : Led} (hl : D.left = none) (hp : p.length ≤ 20) (hd : L.dead = false) : lDrop D p L = ({ D with fs := tGone (tGone D.fs (logN p)) (imgN p) }, { L with dead := true }, 0) := by
  unfold lDrop
  rw [hd, if_neg (by simp)]
  simp only [rmvs]
  rw [kW1_free hl (logN_bad hp)]
  simp only [ne_eq, not_true_eq_false, if_false]
  rw [kW1_free (by exact hl) (imgN_bad hp)]
  simp
/-- An image and no log. -/
theorem opn_img {D : Dsk} {p : Nm} {n l : Nat} {b : List UInt8} (hn : n ≤ 1099511627776) (hb : b.length ≤ 524288) (h1 : tLook D.fs (shadow (imgN p)) = none) (h2 : tLook D.fs (imgN p) = some ⟨recL (numB n ++ rowB b), l⟩) (h3 : tLook D.fs (logN p) = none) : opn D p = (D, 0, ⟨n, b, [], false⟩) := by
  have e1 : rmvs D [shadow (imgN p)] = (D, 0) := by simp [rmvs, kW1_none h1]
  have hcl := entry_len n b (by omega) (by omega)
  have e2 : kLoad D (imgN p) = (numB n ++ rowB b, 0) := by
    unfold kLoad dRead
    rw [h2]
    simp only
    rw [one_rec _ (by omega)]
    simp
  have e3 : imgL D p = (n, b, 0) := by
    unfold imgL
    rw [e2]
    simp only
    rw [numRow_ent n b (by omega) (by omega)]
    simp
    omega
  have e4 : logL D p n = (D, 0, []) := by unfold logL; rw [h3]
  unfold opn opn2
  rw [e1]
  simp only [ne_eq, not_true_eq_false, if_false]
  unfold opn3
  rw [e3]
  simp only [ne_eq, not_true_eq_false, if_false]
  rw [e4]
def sfx : List Nm := [[45, 105, 109, 103], [45, 108, 111, 103], [45, 105, 109, 103, 126]]
theorem meets_spec (a b : Nm) (w : World) (ha : a.length ≤ 20) (hb : b.length ≤ 20) :
    Cal Try.prog 38 #[str a, str b] w fun v w' => ∃ r, v = .bool r ∧ (r = false → ∀ s ∈ sfx, ∀ t ∈ sfx, a ++ s ≠ b ++ t) ∧ Nw w w' := by
  refine enter Try.mixed Try.func38 rfl (by kernel_rfl) ?_
  have hsl : ∀ s ∈ sfx, s.length ≤ 5 := by decide
  simp -dsimp [go_sem]
  have ka : Nw w (w.alloc (.cells #[str [45, 105, 109, 103], str [45, 108, 111, 103], str [45, 105, 109, 103, 126]] 9)) := (Kp.refl _ _).alloc _
  have hR : Rd (w.alloc (.cells #[str [45, 105, 109, 103], str [45, 108, 111, 103], str [45, 105, 109, 103, 126]] 9)) (some ⟨w.heap.size, 0, none⟩) (sfx.map fun s => str s) := Rd.fresh rfl rfl
  have hRw : Nw w _ := ka
  generalize w.alloc (.cells #[str [45, 105, 109, 103], str [45, 108, 111, 103], str [45, 105, 109, 103, 126]] 9) = w1 at *
  generalize w.heap.size = q at *
  have hlen : sfx.length = 3 := rfl
  refine loop [4, 6, 7, 9, 10, 11, 12, 13, 14, 15, 16, 17, 18, 19, 20, 21, 22, 23, 24, 25, 26, 27, 28, 29, 30, 31, 32, 33] (by kernel_rfl)
    (fun f w' => Box1 (fun x w' => ∃ i : Nat, i ≤ 3 ∧ x = i64 i ∧ (∀ s ∈ sfx.take i, ∀ t ∈ sfx, a ++ s ≠ b ++ t) ∧ Nw w1 w') (f 6) w') (fun f _ => 3 - (intOf (f 6)).toNat) ⟨0, by omega, rfl, by simp, Kp.refl _ _⟩ ?_
  rintro f w2 ⟨i, hi, f6, hno, hk2⟩
  by_cases hlt : i < 3
  · have hlt' : (i : Int) < 3 := by omega
    have hk1 : IntKind.i64.wrap ((i : Int) + 1) = ((i + 1 : Nat) : Int) := w64 (by omega) (by omega)
    obtain ⟨i1, hi1⟩ : ∃ i1, i1 = i + 1 := ⟨_, rfl⟩
    rw [← hi1] at hk1
    obtain ⟨s, hs⟩ : ∃ s, s = sfx[i]'(by rw [hlen]; exact hlt) := ⟨_, rfl⟩
    have hsm : s ∈ sfx := hs ▸ List.getElem_mem _
    have hci : w1.cell? ⟨q, i, none⟩ = some (str s) := by
      obtain ⟨b0, o0, e0, c0⟩ := hR i (str s) (by rw [hs]; simp [hlen, hlt])
      cases e0
      simpa using c0
    have htk : sfx.take i1 = sfx.take i ++ [s] := by rw [hi1, hs, List.take_succ_eq_append_getElem]
    simp -dsimp [go_sem, f6, hlt, hlt']
    refine loop [4, 7, 15, 16, 17, 18, 19, 20, 21, 22, 23, 24, 25, 26, 27, 28, 29, 30, 31, 32, 33] (by kernel_rfl)
      (fun f w' => Box1 (fun x w' => ∃ k : Nat, k ≤ 3 ∧ x = i64 k ∧ (∀ t ∈ sfx.take k, a ++ s ≠ b ++ t) ∧ Nw w1 w') (f 7) w') (fun f _ => 3 - (intOf (f 7)).toNat) ⟨0, by omega, rfl, by simp, hk2⟩ ?_
    rintro f3 w3 ⟨k, hkl, f7, hnk, hk3⟩
    by_cases hlk : k < 3
    · have hlk' : (k : Int) < 3 := by omega
      have hk1k : IntKind.i64.wrap ((k : Int) + 1) = ((k + 1 : Nat) : Int) := w64 (by omega) (by omega)
      obtain ⟨k1, hk1e⟩ : ∃ k1, k1 = k + 1 := ⟨_, rfl⟩
      rw [← hk1e] at hk1k
      obtain ⟨t, ht⟩ : ∃ t, t = sfx[k]'(by rw [hlen]; exact hlk) := ⟨_, rfl⟩
      have htm : t ∈ sfx := ht ▸ List.getElem_mem _
      have hck : w1.cell? ⟨q, k, none⟩ = some (str t) := by
        obtain ⟨b0, o0, e0, c0⟩ := hR k (str t) (by rw [ht]; simp [hlen, hlk])
        cases e0
        simpa using c0
      have htk2 : sfx.take k1 = sfx.take k ++ [t] := by rw [hk1e, ht, List.take_succ_eq_append_getElem]
      have kd : Nw w3 w3.drew := (Kp.refl _ _).drew
      have ci3 := hk3.cell_some hci fun h => h
      have ck3 := hk3.cell_some hck fun h => h
      have ci3d := kd.cell_some ci3 fun h => h
      have ck3d := kd.cell_some ck3 fun h => h
      have hn1 : ¬ 9223372036854775807 < a.length + s.length := by have := hsl s hsm; omega
      have hn2 : ¬ 9223372036854775807 < b.length + t.length := by have := hsl t htm; omega
      have hc1 := cat_str a s
      have hc2 := cat_str b t
      simp -dsimp [go_sem, f7, hlk, hlk']
      refine draw (.take 0 (.take 1 (.take 2 (.take 3 (.take 4 (.take 5 (.take 6 (.take 7 (.take 8 (.take 9 (.take 10 (.take 11 (.take 12 .done))))))))))))) (by kernel_rfl) (fun wz => Nw w3 wz) kd ?_
      simp -dsimp [go_sem, f6, f7, hlt, hlk, hlt', hlk', ci3d, ck3d, hn1, hn2, hc1, hc2]
      repeat refine ⟨fun wz hz => by simp [hz.cell_some ci3 fun h => h, hz.cell_some ck3 fun h => h], ?_⟩
      by_cases he : a ++ s = b ++ t
      · have hbe : (a ++ s == b ++ t) = true := by simpa using he
        simp -dsimp [go_sem, hbe]
        exact hRw.nw (hk3.nw kd)
      · have hbe : (a ++ s == b ++ t) = false := by simpa using he
        simp -dsimp [go_sem, hbe, f7, hk1k]
        exact ⟨⟨k1, by omega, rfl, by rw [htk2]; intro x hx; rcases List.mem_append.1 hx with hx | hx; exact hnk x hx; rw [List.mem_singleton.1 hx]; exact he, hk3.nw kd⟩, by simp [intOf]; omega⟩
    · obtain rfl : k = 3 := by omega
      have f7 : f3 7 = i64 3 := f7
      simp -dsimp [go_sem, f7, f6, hk1]
      exact ⟨⟨i1, by omega, rfl, by rw [htk]; intro x hx; rcases List.mem_append.1 hx with hx | hx; exact hno x hx; rw [List.mem_singleton.1 hx]; exact hnk, hk3⟩, by simp [intOf]; omega⟩
  · obtain rfl : i = 3 := by omega
    have f6 : f 6 = i64 3 := f6
    simp -dsimp [go_sem, f6]
    exact ⟨hno, hRw.nw hk2⟩
/-- Only the two logs are there. -/
structure Ap (D : Dsk) (a b : Nm) (u m : Nat) : Prop where
  free : Free D u m
  room : D.room = 65536
  els : ∀ t, t ≠ logN a → t ≠ logN b → tLook D.fs t = none
theorem Ap.push {D : Dsk} {a b p : Nm} {L : Led} {c : UInt8} {u m : Nat} (h : Ap D a b u m) (hp : p = a ∨ p = b) (hpl : p.length ≤ 20) (hd : L.dead = false) (h40 : L.last < 1099511627776) (hu : u ≤ 10000) (hm : m ≤ 100) :
    ∃ D', lApp D p L [c] = (D', { L with ents := L.ents ++ [[c]] }, L.last + 1, 0) ∧ Ap D' a b (u + 31) (m + 1) := by
  obtain ⟨D', e, f, r, x, o⟩ := lApp_out (p := p) (L := L) (b := [c]) h.free hpl hd h40 (by simp) (by rw [h.room]; simp; omega) (by omega)
  refine ⟨D', e, by simpa [Nat.add_comm] using f, r.trans h.room, fun t h1 h2 => ?_⟩
  rw [o t (by rcases hp with rfl | rfl <;> assumption), h.els t h1 h2]
def rep (c : UInt8) (n : Nat) : List (List UInt8) := List.replicate n [c]
theorem rep_succ (c : UInt8) (n : Nat) : rep c n ++ [[c]] = rep c (n + 1) := by unfold rep; rw [List.replicate_succ']
theorem rep_last (c : UInt8) (n : Nat) : (⟨0, [], rep c n, false⟩ : Led).last = n := by simp [Led.last, rep]
/-- What the disk holds at the end. -/
theorem apart_end {D : Dsk} {a b : Nm} {u m N : Nat} {M : Led} (h : Ap D a b u m) (ha : a.length ≤ 20) (hb : b.length ≤ 20) (hn : ∀ s ∈ sfx, ∀ t ∈ sfx, a ++ s ≠ b ++ t) (hN : N ≤ 20) (hu : u ≤ 10000) (hm : m ≤ 100) (hM : M.dead = false) :
    ∃ D1, lWrite D a ⟨0, [], rep 120 N, false⟩ N [88] = (D1, ⟨N, [88], [], false⟩, 0) ∧ ∃ D2, lDrop D1 b M = (D2, { M with dead := true }, 0) ∧ opn D2 a = (D2, 0, ⟨N, [88], [], false⟩) ∧ opn D2 b = (D2, 0, Led.zero) := by
  have n1 : ∀ x ∈ [imgN a, logN a, shadow (imgN a)], ∀ y ∈ [imgN b, logN b, shadow (imgN b)], x ≠ y := by
    have e1 : shadow (imgN a) = a ++ [45, 105, 109, 103, 126] := by simp [shadow, imgN]
    have e2 : shadow (imgN b) = b ++ [45, 105, 109, 103, 126] := by simp [shadow, imgN]
    intro x hx y hy
    rw [e1] at hx
    rw [e2] at hy
    have hx' : ∃ s ∈ sfx, x = a ++ s := by
      simp only [List.mem_cons, List.not_mem_nil, or_false] at hx
      rcases hx with rfl | rfl | rfl
      · exact ⟨_, by simp [sfx], rfl⟩
      · exact ⟨_, by simp [sfx], rfl⟩
      · exact ⟨_, by simp [sfx], rfl⟩
    have hy' : ∃ s ∈ sfx, y = b ++ s := by
      simp only [List.mem_cons, List.not_mem_nil, or_false] at hy
      rcases hy with rfl | rfl | rfl
      · exact ⟨_, by simp [sfx], rfl⟩
      · exact ⟨_, by simp [sfx], rfl⟩
      · exact ⟨_, by simp [sfx], rfl⟩
    obtain ⟨s, hs, rfl⟩ := hx'
    obtain ⟨t, ht, rfl⟩ := hy'
    exact hn s hs t ht
  have ia : imgN a ∈ [imgN a, logN a, shadow (imgN a)] := by simp
  have la : logN a ∈ [imgN a, logN a, shadow (imgN a)] := by simp
  have sa : shadow (imgN a) ∈ [imgN a, logN a, shadow (imgN a)] := by simp
  have ib : imgN b ∈ [imgN b, logN b, shadow (imgN b)] := by simp
  have lb : logN b ∈ [imgN b, logN b, shadow (imgN b)] := by simp
  have sb : shadow (imgN b) ∈ [imgN b, logN b, shadow (imgN b)] := by simp
  obtain ⟨D1, e1, f1, r1, x1, z1, o1⟩ := lWrite_out (p := a) (L := ⟨0, [], rep 120 N, false⟩) (n := N) (b := [88]) h.free ha rfl (by rw [rep_last]; exact Nat.le_refl _) (by omega) (by simp) (h.els _ (log_sh a).symm (n1 _ sa _ lb)) (by rw [h.room]; simp; omega) (by omega)
  have e2 := lDrop_free (L := M) (p := b) f1.left hb hM
  have s1 : Srt D1.fs := f1.ok.srt
  have lk : ∀ t, t ≠ imgN b → t ≠ logN b → tLook (tGone (tGone D1.fs (logN b)) (imgN b)) t = tLook D1.fs t := fun t h1 h2 => by rw [tLook_gone (s1.tGone _), if_neg h1, tLook_gone s1, if_neg h2]
  have lkb : tLook (tGone (tGone D1.fs (logN b)) (imgN b)) (imgN b) = none := by rw [tLook_gone (s1.tGone _), if_pos rfl]
  have lkl : tLook (tGone (tGone D1.fs (logN b)) (imgN b)) (logN b) = none := by rw [tLook_gone (s1.tGone _), if_neg (img_log b).symm, tLook_gone s1, if_pos rfl]
  refine ⟨D1, e1, _, e2, ?_, ?_⟩
  · refine opn_img (l := (recL (numB N ++ rowB [88])).length) (by omega) (by simp) ?_ ?_ ?_
    · simp only
      rw [lk _ (n1 _ sa _ ib) (n1 _ sa _ lb), o1 _ (log_sh a).symm (img_sh a).symm, h.els _ (log_sh a).symm (n1 _ sa _ lb)]
    · simp only
      rw [lk _ (n1 _ ia _ ib) (n1 _ ia _ lb)]
      exact x1
    · simp only
      rw [lk _ (n1 _ la _ ib) (n1 _ la _ lb), z1]
  · refine opn_none ?_ lkb lkl
    simp only
    rw [lk _ (img_sh b).symm (log_sh b).symm, o1 _ (n1 _ la _ sb).symm (n1 _ ia _ sb).symm, h.els _ (n1 _ la _ sb).symm (log_sh b).symm]
theorem lapart_law (a b : Nm) (n m : Int) (w : World) :
    Cal Try.prog 5 #[str a, str b, i64 n, i64 m] w fun v w' => v = .bool true ∧ Nw w w' := by
  refine enter Try.mixed Try.func5 rfl (by kernel_rfl) ?_
  by_cases g1 : a.length < 1
  · have g1' : (a.length : Int) < 1 := by omega
    simp -dsimp [go_sem, g1, g1']
    refine call (lgknown_spec w) ?_
    rintro v w1 ⟨rfl, hk1⟩
    simp -dsimp [go_sem]
    exact hk1
  have g1' : ¬ (a.length : Int) < 1 := by omega
  by_cases g2 : 20 < a.length
  · have g2' : (20 : Int) < (a.length : Int) := by omega
    simp -dsimp [go_sem, g1, g1', g2, g2']
    refine call (lgknown_spec w) ?_
    rintro v w1 ⟨rfl, hk1⟩
    simp -dsimp [go_sem]
    exact hk1
  have g2' : ¬ (20 : Int) < (a.length : Int) := by omega
  by_cases g3 : b.length < 1
  · have g3' : (b.length : Int) < 1 := by omega
    simp -dsimp [go_sem, g1, g1', g2, g2', g3, g3']
    refine call (lgknown_spec w) ?_
    rintro v w1 ⟨rfl, hk1⟩
    simp -dsimp [go_sem]
    exact hk1
  have g3' : ¬ (b.length : Int) < 1 := by omega
  by_cases g4 : 20 < b.length
  · have g4' : (20 : Int) < (b.length : Int) := by omega
    simp -dsimp [go_sem, g1, g1', g2, g2', g3, g3', g4, g4']
    refine call (lgknown_spec w) ?_
    rintro v w1 ⟨rfl, hk1⟩
    simp -dsimp [go_sem]
    exact hk1
  have g4' : ¬ (20 : Int) < (b.length : Int) := by omega
  by_cases g5 : a = b
  · have g5' : (a == b) = true := by simpa using g5
    simp -dsimp [go_sem, g1, g1', g2, g2', g3, g3', g4, g4', g5']
    refine call (lgknown_spec w) ?_
    rintro v w1 ⟨rfl, hk1⟩
    simp -dsimp [go_sem]
    exact hk1
  have g5' : (a == b) = false := by simpa using g5
  by_cases g6 : n < 0
  · simp -dsimp [go_sem, g1, g1', g2, g2', g3, g3', g4, g4', g5', g6]
    refine call (lgknown_spec w) ?_
    rintro v w1 ⟨rfl, hk1⟩
    simp -dsimp [go_sem]
    exact hk1
  by_cases g7 : 20 < n
  · simp -dsimp [go_sem, g1, g1', g2, g2', g3, g3', g4, g4', g5', g6, g7]
    refine call (lgknown_spec w) ?_
    rintro v w1 ⟨rfl, hk1⟩
    simp -dsimp [go_sem]
    exact hk1
  by_cases g8 : m < 0
  · simp -dsimp [go_sem, g1, g1', g2, g2', g3, g3', g4, g4', g5', g6, g7, g8]
    refine call (lgknown_spec w) ?_
    rintro v w1 ⟨rfl, hk1⟩
    simp -dsimp [go_sem]
    exact hk1
  by_cases g9 : 20 < m
  · simp -dsimp [go_sem, g1, g1', g2, g2', g3, g3', g4, g4', g5', g6, g7, g8, g9]
    refine call (lgknown_spec w) ?_
    rintro v w1 ⟨rfl, hk1⟩
    simp -dsimp [go_sem]
    exact hk1
  simp -dsimp [go_sem, g1, g1', g2, g2', g3, g3', g4, g4', g5', g6, g7, g8, g9]
  refine call (meets_spec a b w (by omega) (by omega)) ?_
  rintro v w1 ⟨r, rfl, hnm, hk1⟩
  cases r with
  | true =>
    simp -dsimp [go_sem]
    refine call (lgknown_spec w1) ?_
    rintro v w2 ⟨rfl, hk2⟩
    simp -dsimp [go_sem]
    exact hk1.nw hk2
  | false =>
    have hnm := hnm rfl
    simp -dsimp [go_sem]
    refine call (meets_spec b a w1 (by omega) (by omega)) ?_
    rintro v w2 ⟨r, rfl, _, hk2⟩
    have k2 := hk1.nw hk2
    cases r with
    | true =>
      simp -dsimp [go_sem]
      refine call (lgknown_spec w2) ?_
      rintro v w3 ⟨rfl, hk3⟩
      simp -dsimp [go_sem]
      exact k2.nw hk3
    | false =>
      simp -dsimp [go_sem]
      refine call (new_spec 65536 w2) ?_
      rintro v w3 (⟨h, _⟩ | ⟨_, _, g, F, rfl, hD, nF, hk3⟩)
      · omega
      obtain ⟨D0, hD0⟩ : ∃ D0, D0 = (⟨Int.toNat 65536, [], none⟩ : Dsk) := ⟨_, rfl⟩
      rw [← hD0] at hD
      have eo : ∀ p, opn D0 p = (D0, 0, Led.zero) := fun p => opn_none (by rw [hD0]; rfl) (by rw [hD0]; rfl) (by rw [hD0]; rfl)
      have k3 := k2.nw hk3
      simp -dsimp [go_sem]
      refine call (open_spec g a D0 F w3 hD (by omega) (by omega)) ?_
      rw [eo]
      rintro v w4 hO
      obtain ⟨l1, rfl, T4⟩ := Lw.of_open (w0 := w) hO rfl (fun k hk => by have := nF k hk; have := k2.size; omega) k3
      simp only at T4
      obtain ⟨F4, G4, V4, hL4, ok4, hV4, n4⟩ := T4
      simp -dsimp [go_sem]
      refine call (open_spec g b D0 F4 w4 hL4.dk (by omega) (by omega)) ?_
      rw [eo]
      rintro v w5 hO5
      obtain ⟨l2, rfl, T5⟩ := L2.of_open hL4 ok4 hV4 n4 hO5
      have z0 : Ap D0 a b 0 0 := ⟨⟨T5.lw.ok, by rw [hD0], by rw [hD0]; simp [Dsk.used, sumv], by rw [hD0]; simp⟩, by rw [hD0]; rfl, fun t _ _ => by rw [hD0]; rfl⟩
      clear hO hO5
      obtain ⟨N, rfl⟩ : ∃ N : Nat, n = N := ⟨n.toNat, by omega⟩
      obtain ⟨K, rfl⟩ : ∃ K : Nat, m = K := ⟨m.toNat, by omega⟩
      simp -dsimp [go_sem]
      refine loop [15, 102, 103, 104, 105, 106, 107, 108, 109, 110] (by kernel_rfl)
        (fun f w' => Box1 (fun x w' => ∃ (i : Nat) (D : Dsk), i ≤ N ∧ x = i64 i ∧ L2 w w' g D l1 a ⟨0, [], rep 120 i, false⟩ l2 b Led.zero ∧ Ap D a b (31 * i) i) (f 15) w') (fun f _ => N - (intOf (f 15)).toNat)
        ⟨0, D0, Nat.zero_le _, rfl, T5, z0⟩ ?_
      rintro f w6 ⟨i, D, hi, f15, T6, z6⟩
      by_cases hlt : i < N
      · have hlt' : (i : Int) < (N : Int) := by omega
        have hki : IntKind.i64.wrap ((i : Int) + 1) = ((i + 1 : Nat) : Int) := w64 (by omega) (by omega)
        obtain ⟨i1, hi1⟩ : ∃ i1, i1 = i + 1 := ⟨_, rfl⟩
        obtain ⟨D7, e7, z7⟩ := z6.push (p := a) (L := ⟨0, [], rep 120 i, false⟩) (c := 120) (.inl rfl) (by omega) rfl (by rw [rep_last]; omega) (by omega) (by omega)
        simp only [rep_succ] at e7
        rw [← hi1] at hki e7 z7
        simp -dsimp [go_sem, f15, hlt, hlt']
        refine conv_const rfl rfl (Blk.new w6 _ _) ?_
        intro wc hkc hhc
        have kc : Nw w6 wc := Nw.at_ ((Kp.refl _ _).alloc _) hkc (Nf.at_ (Nat.le_refl _))
        simp -dsimp [go_sem]
        have hap := T6.append (by omega) kc [120] _ 1 (Rd.of_heap hhc) own_off (by simp) (by simp)
        rw [e7] at hap
        simp only at hap
        refine call hap ?_
        rintro v w7 ⟨rfl, T7⟩
        simp -dsimp [go_sem, f15, hki]
        exact ⟨⟨i1, D7, by omega, rfl, T7, by rw [hi1] at z7 ⊢; exact z7⟩, by simp [intOf]; omega⟩
      obtain rfl : i = N := by omega
      have hlt' : ¬ (i : Int) < (i : Int) := by omega
      simp -dsimp [go_sem, f15]
      refine loop [16, 111, 112, 113, 114, 115, 116, 117, 118, 119] (by kernel_rfl)
        (fun f w' => Box1 (fun x w' => ∃ (k : Nat) (D : Dsk), k ≤ K ∧ x = i64 k ∧ L2 w w' g D l1 a ⟨0, [], rep 120 i, false⟩ l2 b ⟨0, [], rep 121 k, false⟩ ∧ Ap D a b (31 * i + 31 * k) (i + k)) (f 16) w') (fun f _ => K - (intOf (f 16)).toNat)
        ⟨0, D, Nat.zero_le _, rfl, T6, z6⟩ ?_
      rintro f2 w8 ⟨k, D8, hk, f16, T8, z8⟩
      by_cases hlk : k < K
      · have hlk' : (k : Int) < (K : Int) := by omega
        have hki : IntKind.i64.wrap ((k : Int) + 1) = ((k + 1 : Nat) : Int) := w64 (by omega) (by omega)
        obtain ⟨k1, hk1e⟩ : ∃ k1, k1 = k + 1 := ⟨_, rfl⟩
        obtain ⟨D9, e9, z9⟩ := z8.push (p := b) (L := ⟨0, [], rep 121 k, false⟩) (c := 121) (.inr rfl) (by omega) rfl (by rw [rep_last]; omega) (by omega) (by omega)
        simp only [rep_succ] at e9
        rw [← hk1e] at hki e9
        simp -dsimp [go_sem, f16, hlk, hlk']
        refine conv_const rfl rfl (Blk.new w8 _ _) ?_
        intro wc hkc hhc
        have kc : Nw w8 wc := Nw.at_ ((Kp.refl _ _).alloc _) hkc (Nf.at_ (Nat.le_refl _))
        simp -dsimp [go_sem]
        have hap := T8.sw.append (by omega) kc [121] _ 1 (Rd.of_heap hhc) own_off (by simp) (by simp)
        rw [e9] at hap
        simp only at hap
        refine call hap ?_
        rintro v w9 ⟨rfl, T9⟩
        simp -dsimp [go_sem, f16, hki]
        exact ⟨⟨k1, D9, by omega, rfl, T9.sw, by rw [hk1e, show 31 * i + 31 * (k + 1) = 31 * i + 31 * k + 31 by omega]; exact z9⟩, by simp [intOf]; omega⟩
      obtain rfl : k = K := by omega
      obtain ⟨DA, eA, DB, eB, oA, oB⟩ := apart_end (N := i) (M := ⟨0, [], rep 121 k, false⟩) z8 (by omega) (by omega) hnm (by omega) (by omega) (by omega) rfl
      simp -dsimp [go_sem, f16]
      refine conv_const rfl rfl (Blk.new w8 _ _) ?_
      intro wc hkc hhc
      have kc : Nw w8 wc := Nw.at_ ((Kp.refl _ _).alloc _) hkc (Nf.at_ (Nat.le_refl _))
      simp -dsimp [go_sem]
      have hwr := T8.write (by omega) kc (i : Int) [88] _ 1 (Rd.of_heap hhc) own_off (by simp) (by simp)
      rw [eA] at hwr
      simp only at hwr
      refine call hwr ?_
      rintro v w9 ⟨rfl, T9⟩
      simp -dsimp [go_sem]
      have hdr := T9.sw.drop (by omega)
      rw [eB] at hdr
      simp only at hdr
      refine call hdr ?_
      rintro v wA ⟨rfl, TA⟩
      obtain ⟨FA, hDA, hFA, nA⟩ := TA.lw.dw
      simp -dsimp [go_sem]
      refine call (open_spec g a DB FA wA hDA (by omega) (by omega)) ?_
      rw [oA]
      rintro v wB hOB
      obtain ⟨l3, rfl, TB⟩ := Lw.of_open hOB rfl hFA nA
      simp only at TB
      obtain ⟨FB, GB, VB, hLB, okB, hVB, nB⟩ := TB
      simp -dsimp [go_sem]
      refine call (open_spec g b DB FB wB hLB.dk (by omega) (by omega)) ?_
      rw [oB]
      rintro v wC hOC
      obtain ⟨l4, rfl, TC⟩ := L2.of_open hLB okB hVB nB hOC
      simp -dsimp [go_sem]
      refine call TC.lw.last ?_
      rintro v wD ⟨rfl, hkD⟩
      have hlD : (⟨i, [88], [], false⟩ : Led).last = i := by simp [Led.last]
      rw [hlD]
      simp -dsimp [go_sem]
      refine call (TC.nw hkD).sw.lw.last ?_
      rintro v wE ⟨rfl, hkE⟩
      have hlE : Led.zero.last = 0 := rfl
      rw [hlE]
      simp -dsimp [go_sem]
      refine call (lgknown_spec wE) ?_
      rintro v wF ⟨rfl, hkF⟩
      simp -dsimp [go_sem]
      exact ((TC.lw.on.nw hkD).nw hkE).nw hkF
theorem lapart_row (a b : ByteArray) (n m : Int) (w : World) :
    Cal Try.prog 5 #[.string a, .string b, i64 n, i64 m] w fun v w' => v = .bool true ∧ Nw w w' := by
  have e : ∀ s : ByteArray, Value.string s = str s.data.toList := fun ⟨⟨_⟩⟩ => rfl
  rw [e a, e b]
  exact lapart_law _ _ n m w
end Go.Proofs.Ythonmjgagblogaa
