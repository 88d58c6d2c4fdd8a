/-
  box: isIn, New, Add walked. By the session itself.
-/
import Derived.Test.YtindfpaahlijeaaDoorBxB
namespace Go.Proofs.YtindfpaahlijeaaDoor
set_option linter.unusedSimpArgs false
set_option linter.unusedVariables false
set_option maxRecDepth 100000
set_option maxHeartbeats 2000000
open Go.Vc Go.RowKit

def okF (n lo hi : Int) : Bool := decide (lo ≤ n) && decide (n ≤ hi)
theorem isIn_spec (n lo hi : Int) (w : World) : Cal Tryd.prog 34 #[i64 n, i64 lo, i64 hi] w fun v w' => v = .bool (okF n lo hi) ∧ w' = w := by
  refine enter Tryd.mixed Tryd.func34 rfl (by kernel_rfl) ?_
  by_cases h1 : lo ≤ n
  · simp -dsimp [go_sem, h1, okF]
  · simp -dsimp [go_sem, h1, okF]
theorem new_spec (nm : ByteArray) (n : Int) (w : World) : Cal Tryd.prog 27 #[.string nm, i64 n] w fun v w' => v = .agg #[.string nm, i64 n, i64 1, .slice none 0 0] ∧ Nw w w' := by
  refine enter Tryd.mixed Tryd.func27 rfl (by kernel_rfl) ?_
  simp -dsimp [go_sem]
  simp [go_sem]
  exact (Kp.refl _ _).alloc _
theorem ob_new (nm : ByteArray) (n : Int) (w : World) (B : Nat) : OB w (.agg #[.string nm, i64 n, i64 1, .slice none 0 0]) ⟨nm, n, 1, []⟩ B := ⟨_, rfl, OL.nil _ _⟩

def addB (b : Bx) (flags date : Int) (body : List UInt8) : Bx × Int × Int :=
  if (okF flags 0 31 && okF date 0 1073741824) = false then (b, 0, 1)
  else if 1200 < body.length then (b, 0, 5)
  else if 24 ≤ b.L.length then (b, 0, 6)
  else if 1048576 ≤ b.next then (b, 0, 10)
  else ({ b with next := b.next + 1, L := b.L ++ [⟨b.next, flags, date, body⟩] }, b.next, 0)
/-- What Add, on the program's side and on the reference's, hands back. -/
def AddR (v : Value) (w' : World) (r : Bx × Int × Int) (B : Nat) : Prop := ∃ bv, v = .tuple #[bv, i64 r.2.1, i64 r.2.2] ∧ OB w' bv r.1 B
theorem two_new (w : World) (t u : TypeId) (cs ds : Array Value) : ∃ x, x = w.heap.size ∧ Blk ((w.alloc (.cells cs t)).alloc (.cells ds u)) x t cs ∧ Blk ((w.alloc (.cells cs t)).alloc (.cells ds u)) (x + 1) u ds ∧ ((w.alloc (.cells cs t)).alloc (.cells ds u)).heap.size = x + 2 ∧ Nw w ((w.alloc (.cells cs t)).alloc (.cells ds u)) :=
  ⟨_, rfl, (Blk.new w t cs).kp ((Kp.refl (fun _ => False) _).alloc _) fun h => h, Blk.fresh (by simp), by simp, ((Kp.refl _ _).alloc _).alloc _⟩
/-- A box is handed back out of block x by way of block x + 1. -/
theorem blk_set4 {w : World} {g : Nat} {t : TypeId} {a0 a1 a2 a3 : Value} (h : Blk w g t #[a0, a1, a2, a3]) (a b c d : Value) : Blk ((((w.setCell ⟨g, 0, none⟩ a).setCell ⟨g, 1, none⟩ b).setCell ⟨g, 2, none⟩ c).setCell ⟨g, 3, none⟩ d) g t #[a, b, c, d] := by
  simpa using (((h.set 0 a).set 1 b).set 2 c).set 3 d
theorem ob_out {w0 w3 : World} {x : Nat} {b : Bx} {vL : Value} (hL : OL w3 vL b.L (x + 2)) (n : Nw w0 w3) (hx : x = w0.heap.size) :
    OB ((((w3.setCell ⟨x + 1, 0, none⟩ (.string b.name)).setCell ⟨x + 1, 1, none⟩ (i64 b.val)).setCell ⟨x + 1, 2, none⟩ (i64 b.next)).setCell ⟨x + 1, 3, none⟩ vL) (.agg #[.string b.name, i64 b.val, i64 b.next, vL]) b x ∧
      Nw w0 ((((w3.setCell ⟨x + 1, 0, none⟩ (.string b.name)).setCell ⟨x + 1, 1, none⟩ (i64 b.val)).setCell ⟨x + 1, 2, none⟩ (i64 b.next)).setCell ⟨x + 1, 3, none⟩ vL) := by
  have ks := kp_set4 w3 (x + 1) (.string b.name) (i64 b.val) (i64 b.next) vL
  exact ⟨⟨vL, rfl, (hL.kp ks fun k hk _ (e : k = x + 1) => by omega).mono (by omega)⟩, n.at_ ks fun k (e : k = x + 1) => by omega⟩
theorem add_spec (v : Value) (b : Bx) (S : Nat → Prop) (flags date : Int) (body : List UInt8) (X : Option Addr) (xc : Nat) (w : World) (h : RB w v b S) (hl : b.L.length ≤ 1000000) (hbl : ∀ m ∈ b.L, m.body.length ≤ 1000000000)
    (hx : Rd w X (body.map u8)) (hn : -9223372036854775808 ≤ b.next) :
    Cal Tryd.prog 26 #[v, i64 flags, i64 date, .slice X body.length xc] w fun v' w' => AddR v' w' (addB b flags date body) w.heap.size ∧ Nw w w' := by
  obtain ⟨A, c, q, rfl, hq, hc, hr, ho, hb⟩ := id h
  refine enter Tryd.mixed Tryd.func26 rfl (by kernel_rfl) ?_
  simp -dsimp [go_sem]
  obtain ⟨x, hx', hb0, hz0, hsz, n0⟩ := two_new w 24 24 #[.string b.name, i64 b.val, i64 b.next, .slice A b.L.length c] #[.string ⟨#[]⟩, i64 0, i64 0, .slice none 0 0]
  rw [← hx']
  generalize (w.alloc (.cells #[.string b.name, i64 b.val, i64 b.next, .slice A b.L.length c] 24)).alloc (.cells #[.string ⟨#[]⟩, i64 0, i64 0, .slice none 0 0] 24) = wa at *
  refine call (copied_spec _ b S wa (h.nw n0) hl hbl) ?_
  rintro v1 w1 ⟨⟨vL, rfl, hO⟩, hk1⟩
  have hb1 := hb0.nw hk1
  have hz1 := hz0.nw hk1
  have n1 := n0.nw hk1
  rw [hsz] at hO
  obtain ⟨q2, A2, d2, rfl, hq2, ho2, hA2, hbd2⟩ := id hO
  have c0 := hb1.cell 0
  have c1 := hb1.cell 1
  have c2 := hb1.cell 2
  have c3 := hb1.cell 3
  have f0 := hb1.frozen 0
  have f1 := hb1.frozen 1
  have f2 := hb1.frozen 2
  have f3 := hb1.frozen 3
  have hb := blk_set4 hb1 (.string b.name) (i64 b.val) (i64 b.next) (.slice A2 b.L.length d2)
  have ks := kp_set4 w1 x (.string b.name) (i64 b.val) (i64 b.next) (.slice A2 b.L.length d2)
  have hz := hz1.kp ks (by show ¬ x + 1 = x; omega)
  have hL := hO.kp ks fun k hk _ (e : k = x) => by omega
  have n2 := n1.at_ ks fun k (e : k = x) => by omega
  have hs2 : x + 2 ≤ w1.heap.size := by rw [← hsz]; exact hk1.size
  have hs3 := Nat.le_trans hs2 ks.size
  simp -dsimp [go_sem, c0, c1, c2, c3, f0, f1, f2, f3]
  generalize (((w1.setCell ⟨x, 0, none⟩ (.string b.name)).setCell ⟨x, 1, none⟩ (i64 b.val)).setCell ⟨x, 2, none⟩ (i64 b.next)).setCell ⟨x, 3, none⟩ (.slice A2 b.L.length d2) = w2 at *
  clear c0 c1 c2 c3 f0 f1 f2 f3 hb0 hz0 hb1 hz1 ks hk1
  refine call (isIn_spec flags 0 31 w2) ?_
  rintro v3 w3 ⟨rfl, rfl⟩
  by_cases hf : okF flags 0 31 = true
  · simp -dsimp [go_sem, hf]
    refine call (isIn_spec date 0 1073741824 _) ?_
    rintro v4 w4 ⟨rfl, rfl⟩
    by_cases hg : okF date 0 1073741824 = true
    · by_cases hb1 : 1200 < body.length
      · have hb1' : (1200 : Int) < (body.length : Int) := by omega
        have e0 : addB b flags date body = (b, 0, 5) := by unfold addB; rw [if_neg (by simp [hf, hg]), if_pos hb1]
        rw [e0]
        have c0 := hb.cell 0
        have c1 := hb.cell 1
        have c2 := hb.cell 2
        have c3 := hb.cell 3
        have z0 := hz.cell 0
        have z1 := hz.cell 1
        have z2 := hz.cell 2
        have z3 := hz.cell 3
        have f0 := hz.frozen 0
        have f1 := hz.frozen 1
        have f2 := hz.frozen 2
        have f3 := hz.frozen 3
        simp -dsimp [go_sem, c0, c1, c2, c3, z0, z1, z2, z3, f0, f1, f2, f3, hf, hg, hb1, hb1']
        obtain ⟨h1, h2⟩ := ob_out (b := b) hL n2 hx'
        exact ⟨⟨_, rfl, h1⟩, h2⟩
      · have hb1' : ¬ (1200 : Int) < (body.length : Int) := by omega
        by_cases hb2 : 24 ≤ b.L.length
        · have hb2' : (24 : Int) ≤ (b.L.length : Int) := by omega
          have e0 : addB b flags date body = (b, 0, 6) := by unfold addB; rw [if_neg (by simp [hf, hg]), if_neg hb1, if_pos hb2]
          rw [e0]
          have c0 := hb.cell 0
          have c1 := hb.cell 1
          have c2 := hb.cell 2
          have c3 := hb.cell 3
          have z0 := hz.cell 0
          have z1 := hz.cell 1
          have z2 := hz.cell 2
          have z3 := hz.cell 3
          have f0 := hz.frozen 0
          have f1 := hz.frozen 1
          have f2 := hz.frozen 2
          have f3 := hz.frozen 3
          simp -dsimp [go_sem, c0, c1, c2, c3, z0, z1, z2, z3, f0, f1, f2, f3, hf, hg, hb1, hb1', hb2, hb2']
          obtain ⟨h1, h2⟩ := ob_out (b := b) hL n2 hx'
          exact ⟨⟨_, rfl, h1⟩, h2⟩
        · have hb2' : ¬ (24 : Int) ≤ (b.L.length : Int) := by omega
          by_cases hb3 : 1048576 ≤ b.next
          · have e0 : addB b flags date body = (b, 0, 10) := by unfold addB; rw [if_neg (by simp [hf, hg]), if_neg hb1, if_neg hb2, if_pos hb3]
            rw [e0]
            have c0 := hb.cell 0
            have c1 := hb.cell 1
            have c2 := hb.cell 2
            have c3 := hb.cell 3
            have z0 := hz.cell 0
            have z1 := hz.cell 1
            have z2 := hz.cell 2
            have z3 := hz.cell 3
            have f0 := hz.frozen 0
            have f1 := hz.frozen 1
            have f2 := hz.frozen 2
            have f3 := hz.frozen 3
            simp -dsimp [go_sem, c0, c1, c2, c3, z0, z1, z2, z3, f0, f1, f2, f3, hf, hg, hb1, hb1', hb2, hb2', hb3]
            obtain ⟨h1, h2⟩ := ob_out (b := b) hL n2 hx'
            exact ⟨⟨_, rfl, h1⟩, h2⟩
          · have e0 : addB b flags date body = ({ b with next := b.next + 1, L := b.L ++ [⟨b.next, flags, date, body⟩] }, b.next, 0) := by
              unfold addB; rw [if_neg (by simp [hf, hg]), if_neg hb1, if_neg hb2, if_neg hb3]
            rw [e0]
            have hw : IntKind.i64.wrap (b.next + 1) = b.next + 1 := w64 (by omega) (by omega)
            have c2 := hb.cell 2
            have c3 := hb.cell 3
            have f2 := hb.frozen 2
            have hb5 := hb.set 2 (i64 (b.next + 1))
            have ks : Kp (At x) w4 (w4.setCell ⟨x, 2, none⟩ (i64 (b.next + 1))) := (Kp.refl _ _).setCell_at _ _
            have hz5 := hz.kp ks (by show ¬ x + 1 = x; omega)
            have hL5 := hL.kp ks fun k hk _ (e : k = x) => by omega
            have n5 := n2.at_ ks fun k (e : k = x) => by omega
            have hs5 := Nat.le_trans hs3 ks.size
            have hb6 : Blk (w4.setCell ⟨x, 2, none⟩ (i64 (b.next + 1))) x 24 #[.string b.name, i64 b.val, i64 (b.next + 1), .slice A2 b.L.length d2] := by simpa using hb5
            simp -dsimp [go_sem, hg, hb1, hb1', hb2, hb2', hb3, c2, c3, f2, hw]
            generalize w4.setCell ⟨x, 2, none⟩ (i64 (b.next + 1)) = w5 at *
            clear hb hz hL hb5 ks c2 c3 f2 n2 hs3 hs2 n1
            have kd : Nw w5 w5.drew := (Kp.refl _ _).drew
            have x3 : w5.cell? ⟨x, 3, none⟩ = some (.slice A2 b.L.length d2) := hb6.cell 3
            have x3d := kd.cell_some x3 fun h => h
            refine drawD (.take 0 (.take 1 (.take 2 (.take 3 (.take 4 (.take 5 (.alt 6 (.alt 7 (.alt 8 (.alt 9 (.take 10 (.alt 11 .done .stop)) .stop) .stop) .stop) .stop)))))))  11 (by kernel_rfl) (fun wz => Kp (Fr (x + 2)) w5 wz) (kd.kp _) ?_
            simp -dsimp [go_sem, x3d]
            refine ⟨fun wz hz => by simp [hz.cell_some x3 (by show ¬ x + 2 ≤ x; omega)], ?_⟩
            refine call (clone_spec X xc body _ ((hx.nw n5).nw kd) (by omega)) ?_
            rintro v6 w6 ⟨hB6, hk6⟩
            have k56 := kd.nw hk6
            obtain ⟨B6, d6, rfl, ho6, hA6⟩ := id hB6
            refine ⟨.inr (Nw.kp k56 _), ?_⟩
            simp -dsimp [go_sem]
            simp [go_sem]
            have ka : Nw w6 (w6.alloc (.cells #[i64 b.next, i64 flags, i64 date, .slice B6 body.length d6] 41)) := (Kp.refl _ _).alloc _
            have k6a := k56.nw ka
            obtain ⟨q5, A5, d5, e5, hq5, ho5, hA5, hd5⟩ := hL5
            cases e5
            have hql5 : q5.length = b.L.length := by rw [← hq5, List.length_map]
            refine ⟨Nw.kp k56 _, Nw.kp k6a _, ?_⟩
            refine app Smsg (xs := mq q5) (n := b.L.length) (ho5.nw k6a) (ys := mq [(⟨b.next, flags, date, body⟩, .slice B6 body.length d6)]) (Rd.fresh rfl rfl) (m := 1) rfl (fun u hu => by
              simp [mq] at hu
              rcases hu with rfl | rfl | rfl | rfl
              · rfl
              · rfl
              · rfl
              · cases B6 <;> rfl) (by omega) (by omega) ?_
            intro A7 d7 w7 ho7 hk7 hAA
            have hA2b : ∀ k, blk A2 k → x + 2 ≤ k := fun k hk => by
              obtain ⟨a, rfl, rfl⟩ := blk_of hk
              exact hA5 a rfl
            have k57 : Kp (Fr (x + 2)) w5 w7 := (Nw.kp k6a _).trans (hk7.mono fun i _ hi => hA2b i hi) fun _ _ h => h
            rw [← mq_app] at ho7
            refine ⟨.inr k57, ?_⟩
            have x37 := k57.cell_some x3 (by show ¬ x + 2 ≤ x; omega)
            have f37 : w7.frozen? ⟨x, 3, none⟩ = false := (hb6.kp k57 (by show ¬ x + 2 ≤ x; omega)).frozen 3
            obtain ⟨n7, hn7⟩ : ∃ n7, n7 = b.L.length + 1 := ⟨_, rfl⟩
            rw [← hn7] at ho7 ⊢
            have hb7 := hb6.kp k57 (by show ¬ x + 2 ≤ x; omega)
            have hz7 := hz5.kp k57 (by show ¬ x + 2 ≤ x + 1; omega)
            have c0 := hb7.cell 0
            have c1 := hb7.cell 1
            have c2 := hb7.cell 2
            have z0 := hz7.cell 0
            have z1 := hz7.cell 1
            have z2 := hz7.cell 2
            have z3 := hz7.cell 3
            have f0 := hz7.frozen 0
            have f1 := hz7.frozen 1
            have f2 := hz7.frozen 2
            have f3 := hz7.frozen 3
            simp -dsimp [go_sem, f37, x37, c0, c1, c2, z0, z1, z2, z3, f0, f1, f2, f3]
            have ks : Kp (At x) w7 (w7.setCell ⟨x, 3, none⟩ (.slice A7 n7 d7)) := (Kp.refl _ _).setCell_at _ _
            have hmv : A7 = A2 ∨ ∃ a, A7 = some a ∧ (w6.alloc (.cells #[i64 b.next, i64 flags, i64 date, .slice B6 body.length d6] 41)).heap.size ≤ a.block := by
              rcases hAA with h | ⟨h, _⟩
              · exact .inl h
              · exact .inr ⟨_, h, Nat.le_refl _⟩
            have hL7 : OL w7 (.slice A7 n7 d7) (b.L ++ [⟨b.next, flags, date, body⟩]) (x + 2) := by
              refine ⟨q5 ++ [(⟨b.next, flags, date, body⟩, .slice B6 body.length d6)], A7, d7, by rw [List.length_append]; simp [hn7], by simp [hq5], by rw [List.length_append]; rw [hn7] at ho7; exact ho7, fun a ha => ?_, fun p hp => ?_⟩
              · rcases hmv with rfl | ⟨a', rfl, h⟩
                · exact hA5 a ha
                · cases ha
                  exact Nat.le_trans (Nat.le_trans hs5 k6a.size) h
              · rcases List.mem_append.1 hp with hp | hp
                · have h1 : BsA (w6.alloc (.cells #[i64 b.next, i64 flags, i64 date, .slice B6 body.length d6] 41)) p.2 p.1.body (x + 2) A2 := (hd5 p hp).nw k6a
                  exact h1.grown hk7 hmv
                · rw [List.mem_singleton.1 hp]
                  have h1 : BsA (w6.alloc (.cells #[i64 b.next, i64 flags, i64 date, .slice B6 body.length d6] 41)) (.slice B6 body.length d6) body (x + 2) A2 := (BsA.of hB6 (Nat.le_trans hs5 kd.size) (ho5.nw kd).lt).nw ka
                  exact h1.grown hk7 hmv
            obtain ⟨h1, h2⟩ := ob_out (b := { b with next := b.next + 1, L := b.L ++ [⟨b.next, flags, date, body⟩] }) (hL7.kp ks fun k hk _ (e : k = x) => by omega) ((Nw.fr n5 k57 (by omega)).at_ ks fun k (e : k = x) => by omega) hx'
            exact ⟨⟨_, rfl, h1⟩, h2⟩
    · rw [Bool.not_eq_true] at hg
      have e0 : addB b flags date body = (b, 0, 1) := by unfold addB; rw [if_pos (by simp [hg])]
      rw [e0]
      have c0 := hb.cell 0
      have c1 := hb.cell 1
      have c2 := hb.cell 2
      have c3 := hb.cell 3
      have z0 := hz.cell 0
      have z1 := hz.cell 1
      have z2 := hz.cell 2
      have z3 := hz.cell 3
      have f0 := hz.frozen 0
      have f1 := hz.frozen 1
      have f2 := hz.frozen 2
      have f3 := hz.frozen 3
      simp -dsimp [go_sem, c0, c1, c2, c3, z0, z1, z2, z3, f0, f1, f2, f3, hg]
      obtain ⟨h1, h2⟩ := ob_out (b := b) hL n2 hx'
      exact ⟨⟨_, rfl, h1⟩, h2⟩
  · rw [Bool.not_eq_true] at hf
    have e0 : addB b flags date body = (b, 0, 1) := by unfold addB; rw [if_pos (by simp [hf])]
    rw [e0]
    have c0 := hb.cell 0
    have c1 := hb.cell 1
    have c2 := hb.cell 2
    have c3 := hb.cell 3
    have z0 := hz.cell 0
    have z1 := hz.cell 1
    have z2 := hz.cell 2
    have z3 := hz.cell 3
    have f0 := hz.frozen 0
    have f1 := hz.frozen 1
    have f2 := hz.frozen 2
    have f3 := hz.frozen 3
    simp -dsimp [go_sem, c0, c1, c2, c3, z0, z1, z2, z3, f0, f1, f2, f3, hf]
    obtain ⟨h1, h2⟩ := ob_out (b := b) hL n2 hx'
    exact ⟨⟨_, rfl, h1⟩, h2⟩
end Go.Proofs.YtindfpaahlijeaaDoor
