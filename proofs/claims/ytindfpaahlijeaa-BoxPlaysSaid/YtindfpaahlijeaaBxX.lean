/-
  The reference's box: Add. By the session itself.
-/
import Derived.Test.YtindfpaahlijeaaBxW
import Derived.Test.YtindfpaahlijeaaVd
namespace Go.Vc
/-- A piece whose order is drawn and that ends in a store, what is known behind it said once. -/
theorem drawD_cut {P : Program} {s : St} {w : World} {id : Nat} {l : List Oper} {Q : Ex → St → World → Prop} {k : Stop (Code.region id l.toArray true, Q)} (t : Tr) (fin : Nat) (I : St → World → Prop) (hc : ((Region.noSelect l.toArray && chkT l.toArray l.length (Array.replicate l.length false) true t) && finT l.toArray fin t) = true) (S : World → Prop) (hS : S w.drew)
    (h : wD P l.toArray S fin I t .mk s w.drew) (hK : ∀ s' w', I s' w' → Q .normal s' w') : walk P (.region id l.toArray true) Q k s w := by
  show drawS P l.toArray (Q .normal) s w
  exact anyS_mono hK _ _ _ _ (drawD_tree t fin hc S hS h)
end Go.Vc
namespace Go.Proofs.Ytindfpaahlijeaa
set_option linter.unusedSimpArgs false
set_option linter.unusedVariables false
set_option maxRecDepth 100000
set_option maxHeartbeats 2000000
open Go.Vc Go.RowKit

def RAdd (v : Value) (w' : World) (r : Bx × Int × Int) (S : Nat → Prop) : Prop := ∃ bv, v = .tuple #[bv, i64 r.2.1, i64 r.2.2] ∧ RB w' bv r.1 S
def AddI (f4 f8 : Value) (x M : Nat) (w0 : World) (b : Bx) (q : MQ) (m : Msg) (s : St) (w : World) : Prop := ∃ n A c B d, s 4 = f4 ∧ s 8 = f8 ∧ n = b.L.length + 1 ∧ Blk w x 26 #[.string b.name, i64 b.val, i64 b.next, .slice A n c] ∧ Ow w 42 4 A n c (mq (q ++ [(m, .slice B m.body.length d)])) ∧ Rd w B (m.body.map u8) ∧ m.body.length ≤ d ∧ (∀ k, blk A k → M ≤ k) ∧ (∀ k, blk B k → M ≤ k) ∧ Kp (fun k => M ≤ k ∨ k = x) w0 w
theorem radd_spec (v : Value) (b : Bx) (S : Nat → Prop) (flags date : Int) (body : List UInt8) (X : Option Addr) (xc : Nat) (w : World) (h : RB w v b S) (hS : ∀ k, S k → k < w.heap.size) (hl : b.L.length ≤ 1000000) (hx : Rd w X (body.map u8)) (hn : -9223372036854775808 ≤ b.next) :
    Cal Try.prog 39 #[v, i64 flags, i64 date, .slice X body.length xc] w fun v' w' => RAdd v' w' (addB b flags date body) S ∧ Nw w w' := by
  obtain ⟨A, c, q, rfl, hq, hc, hr, ho, hb⟩ := id h
  have hql : q.length = b.L.length := by rw [← hq, List.length_map]
  refine enter Try.mixed Try.func39 rfl (by kernel_rfl) ?_
  simp -dsimp [go_sem]
  obtain ⟨x, hx', hb0, hz0, hsz, n0⟩ := two_new w 26 26 #[.string b.name, i64 b.val, i64 b.next, .slice A b.L.length c] #[.string ⟨#[]⟩, i64 0, i64 0, .slice none 0 0]
  rw [← hx']
  generalize (w.alloc (.cells #[.string b.name, i64 b.val, i64 b.next, .slice A b.L.length c] 26)).alloc (.cells #[.string ⟨#[]⟩, i64 0, i64 0, .slice none 0 0] 26) = wa at *
  have c0 := hb0.cell 0
  have c1 := hb0.cell 1
  have c2 := hb0.cell 2
  have c3 := hb0.cell 3
  have z0 := hz0.cell 0
  have z1 := hz0.cell 1
  have z2 := hz0.cell 2
  have z3 := hz0.cell 3
  have f0 := hz0.frozen 0
  have f1 := hz0.frozen 1
  have f2 := hz0.frozen 2
  have f3 := hz0.frozen 3
  refine call (rin_spec flags 0 31 wa) ?_
  rintro v3 w3 ⟨rfl, hw3⟩
  rw [hw3]
  clear hw3 w3
  by_cases hf : okF flags 0 31 = true
  · simp -dsimp [go_sem, hf]
    refine call (rin_spec date 0 1073741824 _) ?_
    rintro v4 w4 ⟨rfl, hw4⟩
    rw [hw4]
    clear hw4 w4
    by_cases hg : okF date 0 1073741824 = true
    · by_cases hb1 : 1200 < body.length
      · have hb1' : (1200 : Int) < (body.length : Int) := by omega
        have e0 : addB b flags date body = (b, 0, 5) := by unfold addB; rw [if_neg (by simp [hf, hg]), if_pos hb1]
        rw [e0]
        simp -dsimp [go_sem, c0, c1, c2, c3, z0, z1, z2, z3, f0, f1, f2, f3, hf, hg, hb1, hb1']
        have ks := kp_set4 wa (x + 1) (.string b.name) (i64 b.val) (i64 b.next) (.slice A b.L.length c)
        have n1 := n0.at_ ks fun k (e : k = x + 1) => by omega
        exact ⟨⟨_, rfl, h.nw n1⟩, n1⟩
      · have hb1' : ¬ (1200 : Int) < (body.length : Int) := by omega
        by_cases hb2 : 24 ≤ b.L.length
        · have hb2' : (24 : Int) ≤ (b.L.length : Int) := by omega
          have e0 : addB b flags date body = (b, 0, 6) := by unfold addB; rw [if_neg (by simp [hf, hg]), if_neg hb1, if_pos hb2]
          rw [e0]
          simp -dsimp [go_sem, c0, c1, c2, c3, z0, z1, z2, z3, f0, f1, f2, f3, hf, hg, hb1, hb1', hb2, hb2']
          have ks := kp_set4 wa (x + 1) (.string b.name) (i64 b.val) (i64 b.next) (.slice A b.L.length c)
          have n1 := n0.at_ ks fun k (e : k = x + 1) => by omega
          exact ⟨⟨_, rfl, h.nw n1⟩, n1⟩
        · have hb2' : ¬ (24 : Int) ≤ (b.L.length : Int) := by omega
          by_cases hb3 : 1048576 ≤ b.next
          · have e0 : addB b flags date body = (b, 0, 10) := by unfold addB; rw [if_neg (by simp [hf, hg]), if_neg hb1, if_neg hb2, if_pos hb3]
            rw [e0]
            simp -dsimp [go_sem, c0, c1, c2, c3, z0, z1, z2, z3, f0, f1, f2, f3, hf, hg, hb1, hb1', hb2, hb2', hb3]
            have ks := kp_set4 wa (x + 1) (.string b.name) (i64 b.val) (i64 b.next) (.slice A b.L.length c)
            have n1 := n0.at_ ks fun k (e : k = x + 1) => by omega
            exact ⟨⟨_, rfl, h.nw n1⟩, n1⟩
          · have e0 : addB b flags date body = ({ b with next := b.next + 1, L := b.L ++ [⟨b.next, flags, date, body⟩] }, b.next, 0) := by
              unfold addB; rw [if_neg (by simp [hf, hg]), if_neg hb1, if_neg hb2, if_neg hb3]
            rw [e0]
            have hw : IntKind.i64.wrap (b.next + 1) = b.next + 1 := w64 (by omega) (by omega)
            have hw2 : IntKind.i64.wrap b.next = b.next := w64 (by omega) (by omega)
            simp -dsimp [go_sem, hg, hb1, hb1', hb2, hb2', hb3, c2, c3]
            obtain ⟨M, hM⟩ : ∃ M, M = wa.heap.size := ⟨_, rfl⟩
            have hxM : x + 1 < M := by rw [hM]; exact hz0.lt
            have hwM : w.heap.size ≤ M := by rw [hM]; exact n0.size
            have kD : Nw wa wa.drew := (Kp.refl _ _).drew
            have x2 : wa.cell? ⟨x, 2, none⟩ = some (i64 b.next) := c2
            have x3 : wa.cell? ⟨x, 3, none⟩ = some (.slice A b.L.length c) := c3
            have x2d := kD.cell_some x2 fun h => h
            have x3d := kD.cell_some x3 fun h => h
            refine drawD_cut (.take 1 (.take 2 (.take 4 (.take 5 (.take 6 (.take 7 (.take 9 (.alt 0 (.alt 3 (.alt 8 (.alt 10 (.alt 11 (.alt 12 (.alt 13 (.take 14 (.alt 15 .done .stop)) .stop) .stop) .stop) .stop) .stop) (.alt 8 (.alt 3 (.alt 10 (.alt 11 (.alt 12 (.alt 13 (.take 14 (.alt 15 .done .stop)) .stop) .stop) .stop) .stop) .stop) .stop)) (.alt 8 (.alt 0 (.alt 3 (.alt 10 (.alt 11 (.alt 12 (.alt 13 (.take 14 (.alt 15 .done .stop)) .stop) .stop) .stop) .stop) .stop) .stop) .stop))))))))) 15 (AddI (.pointer (some ⟨x, 0, none⟩)) (.pointer (some ⟨x + 1, 0, none⟩)) x M wa b q ⟨b.next, flags, date, body⟩) (by kernel_rfl) (fun wz => Kp (Fr M) wa wz) (Nw.kp kD _) ?_ ?_
            · simp -dsimp [go_sem, x2d, x3d]
              repeat refine ⟨fun wz hz => by simp [hz.cell_some x2 (by show ¬ M ≤ x; omega), hz.cell_some x3 (by show ¬ M ≤ x; omega)], ?_⟩
              have hmade := Ow.made wa 42 4 0 #[] rfl (by simp [maxLen])
              have k1 : Nw wa (wa.alloc (.cells #[] 42)).drew := ((Kp.refl _ _).alloc _).drew
              have k2 : Nw wa ((wa.alloc (.cells #[] 42)).alloc (.cells #[] 5)).drew := (((Kp.refl _ _).alloc _).alloc _).drew
              have k3 : Nw wa (wa.alloc (.cells #[] 5)).drew := ((Kp.refl _ _).alloc _).drew
              have k4 : Nw wa ((wa.alloc (.cells #[] 5)).alloc (.cells #[] 42)).drew := (((Kp.refl _ _).alloc _).alloc _).drew
              have hmade4 : Ow ((wa.alloc (.cells #[] 5)).alloc (.cells #[] 42)).drew 42 4 (some ⟨wa.heap.size + 1, 0, none⟩) 0 0 [] := by
                have := (Ow.made (wa.alloc (.cells #[] 5)) 42 4 0 #[] rfl (by simp [maxLen])).nw ((Kp.refl _ _).drew)
                simpa using this
              refine ⟨⟨Nw.kp k1 _, ?_, Nw.kp k2 _, ?_⟩, Nw.kp k3 _, Nw.kp k4 _, ?_⟩
              · refine app Smsg (xs := []) (n := 0) (hmade.nw ((Kp.refl _ _).drew)) (hr.nw (n0.nw k1)) (ys := mq q) (m := b.L.length) (by rw [mq_len, hql]) (mq_one hb) (by omega) (by omega) ?_
                intro A3 d3 w3 hoM0 hk3 hAA
                rw [Nat.zero_add, List.nil_append] at hoM0
                rw [Nat.zero_add]
                have hA3 : ∀ k, blk A3 k → M ≤ k := fun k hk => by
                  rcases hAA with rfl | ⟨rfl, _⟩
                  · have e : k = wa.heap.size := hk
                    omega
                  · have e : k = ((wa.alloc (.cells #[] 42)).drew).heap.size := hk
                    have := (k1).size
                    omega
                have kW0 : Kp (Fr M) wa w3 := (Nw.kp k1 _).trans hk3 fun k _ (e : k = wa.heap.size) => by show M ≤ k; omega
                refine ⟨.inr kW0, ?_⟩
                simp -dsimp [go_sem]
                have kb : Nw w3 (w3.alloc (.cells #[] 5)) := (Kp.refl _ _).alloc _
                have kW : Kp (Fr M) wa (w3.alloc (.cells #[] 5)) := kW0.trans (Nw.kp kb _) fun _ _ h => h
                have hoM := hoM0.nw kb
                have hoB := Ow.made w3 5 1 0 #[] rfl (by simp [maxLen])
                have hp : M ≤ w3.heap.size := by have := kW0.size; omega
                have hpA : ¬ blk A3 w3.heap.size := fun h => by
                  obtain ⟨a, ha, e2⟩ := blk_of h
                  have := hoM0.lt a ha
                  omega
                refine ⟨kW, ?_⟩
                have hxW := (hx.nw n0).kp kW ((hx.nw n0).ofl fun k (hk : M ≤ k) => by omega)
                refine app Try.Su8 (xs := []) (n := 0) hoB hxW (ys := body.map u8) (m := body.length) (by simp) (one_u8 _) (by omega) (by omega) ?_
                intro B7 d7 w7 ho7 hk7 hBB
                rw [Nat.zero_add, List.nil_append] at ho7
                rw [Nat.zero_add]
                have hB7 : ∀ k, blk B7 k → M ≤ k ∧ ¬ blk A3 k := fun k hk => by
                  rcases hBB with rfl | ⟨rfl, _⟩
                  · have e : k = w3.heap.size := hk
                    rw [e]; exact ⟨hp, hpA⟩
                  · have e : k = (w3.alloc (.cells #[] 5)).heap.size := hk
                    refine ⟨by have := kW.size; omega, fun h => ?_⟩
                    obtain ⟨a, ha, e2⟩ := blk_of h
                    have := hoM.lt a ha
                    omega
                have k7 : Kp (Fr M) wa w7 := kW.trans hk7 fun k _ (e : k = w3.heap.size) => by show M ≤ k; omega
                have hoM7 := hoM.kp hk7 (Off.of_blk fun k hk (e : k = w3.heap.size) => hpA (by rw [← e]; exact hk))
                refine ⟨.inr k7, ?_⟩
                try simp -dsimp [go_sem]
                try simp [go_sem]
                have k8a : Nw w7 (w7.alloc (.cells #[i64 b.next, i64 flags, i64 date, .slice B7 body.length d7] 42)) := (Kp.refl _ _).alloc _
                have k8 : Kp (Fr M) wa (w7.alloc (.cells #[i64 b.next, i64 flags, i64 date, .slice B7 body.length d7] 42)) := k7.trans (Nw.kp k8a _) fun _ _ h => h
                refine ⟨k7, ?_⟩
                try refine ⟨k8, ?_⟩
                refine app Smsg (xs := mq q) (n := b.L.length) (hoM7.nw k8a) (ys := mq [(⟨b.next, flags, date, body⟩, .slice B7 body.length d7)]) (Rd.fresh rfl rfl) (m := 1) rfl (fun u hu => by
                  simp [mq] at hu
                  rcases hu with rfl | rfl | rfl | rfl
                  · rfl
                  · rfl
                  · rfl
                  · cases B7 <;> rfl) (by omega) (by omega) ?_
                intro A9 d9 w9 ho9 hk9 hAA9
                have k9 : Kp (Fr M) wa w9 := k8.trans (hk9.mono fun i _ hi => hA3 i hi) fun _ _ h => h
                rw [← mq_app] at ho9
                refine ⟨.inr k9, ?_⟩
                have hb9 := hb0.kp k9 (by show ¬ M ≤ x; omega)
                have f39 := hb9.frozen 3
                have x39 := hb9.cell 3
                obtain ⟨n9, hn9⟩ : ∃ n9, n9 = b.L.length + 1 := ⟨_, rfl⟩
                rw [← hn9] at ho9 ⊢
                have hA9 : ∀ k, blk A9 k → M ≤ k := fun k hk => by
                  rcases hAA9 with rfl | ⟨rfl, _⟩
                  · exact hA3 k hk
                  · have e : k = (w7.alloc (.cells #[i64 b.next, i64 flags, i64 date, .slice B7 body.length d7] 42)).heap.size := hk
                    have := k8.size
                    omega
                have ks : Kp (At x) w9 (w9.setCell ⟨x, 3, none⟩ (.slice A9 n9 d9)) := (Kp.refl _ _).setCell_at _ _
                simp -dsimp [go_sem, f39, x39]
                refine ⟨n9, A9, d9, B7, d7, rfl, rfl, hn9, by simpa using hb9.set 3 (.slice A9 n9 d9), ho9.kp ks (Off.of_blk fun k hk (e : k = x) => by have := hA9 k hk; omega), (((ho7.nw k8a).kp hk9 (Off.of_blk fun k hk h => (hB7 k hk).2 h)).kp ks (Off.of_blk fun k hk (e : k = x) => by have := (hB7 k hk).1; omega)).rd, ho7.2.1, hA9, fun k hk => (hB7 k hk).1, (k9.mono fun k _ h => .inl h).trans ks fun k _ h => .inr h⟩
              · refine app Smsg (xs := []) (n := 0) (hmade.nw (((Kp.refl _ _).alloc _).drew)) (hr.nw (n0.nw k2)) (ys := mq q) (m := b.L.length) (by rw [mq_len, hql]) (mq_one hb) (by omega) (by omega) ?_
                intro A3 d3 w3 hoM0 hk3 hAA
                rw [Nat.zero_add, List.nil_append] at hoM0
                rw [Nat.zero_add]
                have hA3 : ∀ k, blk A3 k → M ≤ k := fun k hk => by
                  rcases hAA with rfl | ⟨rfl, _⟩
                  · have e : k = wa.heap.size := hk
                    omega
                  · have e : k = (((wa.alloc (.cells #[] 42)).alloc (.cells #[] 5)).drew).heap.size := hk
                    have := (k2).size
                    omega
                have kW0 : Kp (Fr M) wa w3 := (Nw.kp k2 _).trans hk3 fun k _ (e : k = wa.heap.size) => by show M ≤ k; omega
                refine ⟨.inr kW0, ?_⟩
                have kW := kW0
                have hoM := hoM0
                have hB0 : Ow ((wa.alloc (.cells #[] 42)).alloc (.cells #[] 5)) 5 1 (some ⟨wa.heap.size + 1, 0, none⟩) 0 0 [] := by
                  have := Ow.made (wa.alloc (.cells #[] 42)) 5 1 0 #[] rfl (by simp [maxLen])
                  simpa using this
                have hoB := (hB0.nw ((Kp.refl _ _).drew)).kp hk3 (Off.of_blk fun k (hk : k = wa.heap.size + 1) (e : k = wa.heap.size) => by omega)
                have hp : M ≤ wa.heap.size + 1 := by omega
                have hpA : ¬ blk A3 (wa.heap.size + 1) := fun h => by
                  rcases hAA with rfl | ⟨rfl, _⟩
                  · have e : wa.heap.size + 1 = wa.heap.size := h
                    omega
                  · have e : wa.heap.size + 1 = (((wa.alloc (.cells #[] 42)).alloc (.cells #[] 5)).drew).heap.size := h
                    simp at e <;> omega
                simp -dsimp [go_sem]
                have hxW := (hx.nw n0).kp kW ((hx.nw n0).ofl fun k (hk : M ≤ k) => by omega)
                refine app Try.Su8 (xs := []) (n := 0) hoB hxW (ys := body.map u8) (m := body.length) (by simp) (one_u8 _) (by omega) (by omega) ?_
                intro B7 d7 w7 ho7 hk7 hBB
                rw [Nat.zero_add, List.nil_append] at ho7
                rw [Nat.zero_add]
                have hB7 : ∀ k, blk B7 k → M ≤ k ∧ ¬ blk A3 k := fun k hk => by
                  rcases hBB with rfl | ⟨rfl, _⟩
                  · have e : k = wa.heap.size + 1 := hk
                    rw [e]; exact ⟨hp, hpA⟩
                  · have e : k = (w3).heap.size := hk
                    refine ⟨by have := kW.size; omega, fun h => ?_⟩
                    obtain ⟨a, ha, e2⟩ := blk_of h
                    have := hoM.lt a ha
                    omega
                have k7 : Kp (Fr M) wa w7 := kW.trans hk7 fun k _ (e : k = wa.heap.size + 1) => by show M ≤ k; omega
                have hoM7 := hoM.kp hk7 (Off.of_blk fun k hk (e : k = wa.heap.size + 1) => hpA (by rw [← e]; exact hk))
                refine ⟨.inr k7, ?_⟩
                try simp -dsimp [go_sem]
                try simp [go_sem]
                have k8a : Nw w7 (w7.alloc (.cells #[i64 b.next, i64 flags, i64 date, .slice B7 body.length d7] 42)) := (Kp.refl _ _).alloc _
                have k8 : Kp (Fr M) wa (w7.alloc (.cells #[i64 b.next, i64 flags, i64 date, .slice B7 body.length d7] 42)) := k7.trans (Nw.kp k8a _) fun _ _ h => h
                refine ⟨k7, ?_⟩
                try refine ⟨k8, ?_⟩
                refine app Smsg (xs := mq q) (n := b.L.length) (hoM7.nw k8a) (ys := mq [(⟨b.next, flags, date, body⟩, .slice B7 body.length d7)]) (Rd.fresh rfl rfl) (m := 1) rfl (fun u hu => by
                  simp [mq] at hu
                  rcases hu with rfl | rfl | rfl | rfl
                  · rfl
                  · rfl
                  · rfl
                  · cases B7 <;> rfl) (by omega) (by omega) ?_
                intro A9 d9 w9 ho9 hk9 hAA9
                have k9 : Kp (Fr M) wa w9 := k8.trans (hk9.mono fun i _ hi => hA3 i hi) fun _ _ h => h
                rw [← mq_app] at ho9
                refine ⟨.inr k9, ?_⟩
                have hb9 := hb0.kp k9 (by show ¬ M ≤ x; omega)
                have f39 := hb9.frozen 3
                have x39 := hb9.cell 3
                obtain ⟨n9, hn9⟩ : ∃ n9, n9 = b.L.length + 1 := ⟨_, rfl⟩
                rw [← hn9] at ho9 ⊢
                have hA9 : ∀ k, blk A9 k → M ≤ k := fun k hk => by
                  rcases hAA9 with rfl | ⟨rfl, _⟩
                  · exact hA3 k hk
                  · have e : k = (w7.alloc (.cells #[i64 b.next, i64 flags, i64 date, .slice B7 body.length d7] 42)).heap.size := hk
                    have := k8.size
                    omega
                have ks : Kp (At x) w9 (w9.setCell ⟨x, 3, none⟩ (.slice A9 n9 d9)) := (Kp.refl _ _).setCell_at _ _
                simp -dsimp [go_sem, f39, x39]
                refine ⟨n9, A9, d9, B7, d7, rfl, rfl, hn9, by simpa using hb9.set 3 (.slice A9 n9 d9), ho9.kp ks (Off.of_blk fun k hk (e : k = x) => by have := hA9 k hk; omega), (((ho7.nw k8a).kp hk9 (Off.of_blk fun k hk h => (hB7 k hk).2 h)).kp ks (Off.of_blk fun k hk (e : k = x) => by have := (hB7 k hk).1; omega)).rd, ho7.2.1, hA9, fun k hk => (hB7 k hk).1, (k9.mono fun k _ h => .inl h).trans ks fun k _ h => .inr h⟩
              · refine app Smsg (xs := []) (n := 0) (hmade4) (hr.nw (n0.nw k4)) (ys := mq q) (m := b.L.length) (by rw [mq_len, hql]) (mq_one hb) (by omega) (by omega) ?_
                intro A3 d3 w3 hoM0 hk3 hAA
                rw [Nat.zero_add, List.nil_append] at hoM0
                rw [Nat.zero_add]
                have hA3 : ∀ k, blk A3 k → M ≤ k := fun k hk => by
                  rcases hAA with rfl | ⟨rfl, _⟩
                  · have e : k = wa.heap.size + 1 := hk
                    omega
                  · have e : k = (((wa.alloc (.cells #[] 5)).alloc (.cells #[] 42)).drew).heap.size := hk
                    have := (k4).size
                    omega
                have kW0 : Kp (Fr M) wa w3 := (Nw.kp k4 _).trans hk3 fun k _ (e : k = wa.heap.size + 1) => by show M ≤ k; omega
                refine ⟨.inr kW0, ?_⟩
                have kW := kW0
                have hoM := hoM0
                have hB0 := (Ow.made wa 5 1 0 #[] rfl (by simp [maxLen])).nw (((Kp.refl _ _).alloc (.cells #[] 42)).drew)
                have hoB := hB0.kp hk3 (Off.of_blk fun k (hk : k = wa.heap.size) (e : k = wa.heap.size + 1) => by omega)
                have hp : M ≤ wa.heap.size := by omega
                have hpA : ¬ blk A3 wa.heap.size := fun h => by
                  rcases hAA with rfl | ⟨rfl, _⟩
                  · have e : wa.heap.size = wa.heap.size + 1 := h
                    omega
                  · have e : wa.heap.size = (((wa.alloc (.cells #[] 5)).alloc (.cells #[] 42)).drew).heap.size := h
                    simp at e <;> omega
                simp -dsimp [go_sem]
                have hxW := (hx.nw n0).kp kW ((hx.nw n0).ofl fun k (hk : M ≤ k) => by omega)
                refine app Try.Su8 (xs := []) (n := 0) hoB hxW (ys := body.map u8) (m := body.length) (by simp) (one_u8 _) (by omega) (by omega) ?_
                intro B7 d7 w7 ho7 hk7 hBB
                rw [Nat.zero_add, List.nil_append] at ho7
                rw [Nat.zero_add]
                have hB7 : ∀ k, blk B7 k → M ≤ k ∧ ¬ blk A3 k := fun k hk => by
                  rcases hBB with rfl | ⟨rfl, _⟩
                  · have e : k = wa.heap.size := hk
                    rw [e]; exact ⟨hp, hpA⟩
                  · have e : k = (w3).heap.size := hk
                    refine ⟨by have := kW.size; omega, fun h => ?_⟩
                    obtain ⟨a, ha, e2⟩ := blk_of h
                    have := hoM.lt a ha
                    omega
                have k7 : Kp (Fr M) wa w7 := kW.trans hk7 fun k _ (e : k = wa.heap.size) => by show M ≤ k; omega
                have hoM7 := hoM.kp hk7 (Off.of_blk fun k hk (e : k = wa.heap.size) => hpA (by rw [← e]; exact hk))
                refine ⟨.inr k7, ?_⟩
                try simp -dsimp [go_sem]
                try simp [go_sem]
                have k8a : Nw w7 (w7.alloc (.cells #[i64 b.next, i64 flags, i64 date, .slice B7 body.length d7] 42)) := (Kp.refl _ _).alloc _
                have k8 : Kp (Fr M) wa (w7.alloc (.cells #[i64 b.next, i64 flags, i64 date, .slice B7 body.length d7] 42)) := k7.trans (Nw.kp k8a _) fun _ _ h => h
                refine ⟨k7, ?_⟩
                try refine ⟨k8, ?_⟩
                refine app Smsg (xs := mq q) (n := b.L.length) (hoM7.nw k8a) (ys := mq [(⟨b.next, flags, date, body⟩, .slice B7 body.length d7)]) (Rd.fresh rfl rfl) (m := 1) rfl (fun u hu => by
                  simp [mq] at hu
                  rcases hu with rfl | rfl | rfl | rfl
                  · rfl
                  · rfl
                  · rfl
                  · cases B7 <;> rfl) (by omega) (by omega) ?_
                intro A9 d9 w9 ho9 hk9 hAA9
                have k9 : Kp (Fr M) wa w9 := k8.trans (hk9.mono fun i _ hi => hA3 i hi) fun _ _ h => h
                rw [← mq_app] at ho9
                refine ⟨.inr k9, ?_⟩
                have hb9 := hb0.kp k9 (by show ¬ M ≤ x; omega)
                have f39 := hb9.frozen 3
                have x39 := hb9.cell 3
                obtain ⟨n9, hn9⟩ : ∃ n9, n9 = b.L.length + 1 := ⟨_, rfl⟩
                rw [← hn9] at ho9 ⊢
                have hA9 : ∀ k, blk A9 k → M ≤ k := fun k hk => by
                  rcases hAA9 with rfl | ⟨rfl, _⟩
                  · exact hA3 k hk
                  · have e : k = (w7.alloc (.cells #[i64 b.next, i64 flags, i64 date, .slice B7 body.length d7] 42)).heap.size := hk
                    have := k8.size
                    omega
                have ks : Kp (At x) w9 (w9.setCell ⟨x, 3, none⟩ (.slice A9 n9 d9)) := (Kp.refl _ _).setCell_at _ _
                simp -dsimp [go_sem, f39, x39]
                refine ⟨n9, A9, d9, B7, d7, rfl, rfl, hn9, by simpa using hb9.set 3 (.slice A9 n9 d9), ho9.kp ks (Off.of_blk fun k hk (e : k = x) => by have := hA9 k hk; omega), (((ho7.nw k8a).kp hk9 (Off.of_blk fun k hk h => (hB7 k hk).2 h)).kp ks (Off.of_blk fun k hk (e : k = x) => by have := (hB7 k hk).1; omega)).rd, ho7.2.1, hA9, fun k hk => (hB7 k hk).1, (k9.mono fun k _ h => .inl h).trans ks fun k _ h => .inr h⟩
            · rintro f w5 ⟨n5, A5, c5, B5, d5, f4, f8, hn5, hb5, ho5, hr5, hd5, hA5, hB5, k5⟩
              have hb5' := hb5
              have p2 := hb5.cell 2
              have q2 := hb5.frozen 2
              have hz5 := hz0.kp k5 (by show ¬ (M ≤ x + 1 ∨ x + 1 = x); omega)
              have n5' := n0.at_ k5 fun k hk => by
                have hk : M ≤ k ∨ k = x := hk
                omega
              have hb6 : Blk (w5.setCell ⟨x, 2, none⟩ (i64 (b.next + 1))) x 26 #[.string b.name, i64 b.val, i64 (b.next + 1), .slice A5 n5 c5] := by simpa using hb5.set 2 (i64 (b.next + 1))
              have ks : Kp (At x) w5 (w5.setCell ⟨x, 2, none⟩ (i64 (b.next + 1))) := (Kp.refl _ _).setCell_at _ _
              have hz6 := hz5.kp ks (by show ¬ x + 1 = x; omega)
              have n6 := n5'.at_ ks fun k (e : k = x) => by omega
              have ho6 := ho5.kp ks (Off.of_blk fun k hk (e : k = x) => by have := hA5 k hk; omega)
              have hr6 := hr5.kp ks (by
                intro a ha _ (e : a.block = x)
                have := hB5 a.block (by rw [ha]; rfl)
                omega)
              simp -dsimp [go_sem, f4, f8, p2, q2, hw]
              generalize w5.setCell ⟨x, 2, none⟩ (i64 (b.next + 1)) = w6 at *
              have kd : Nw w6 w6.drew := (Kp.refl _ _).drew
              have a0 : w6.cell? ⟨x, 0, none⟩ = some (.string b.name) := hb6.cell 0
              have a1 : w6.cell? ⟨x, 1, none⟩ = some (i64 b.val) := hb6.cell 1
              have a2 : w6.cell? ⟨x, 2, none⟩ = some (i64 (b.next + 1)) := hb6.cell 2
              have a3 : w6.cell? ⟨x, 3, none⟩ = some (.slice A5 n5 c5) := hb6.cell 3
              have a0d := kd.cell_some a0 fun h => h
              have a1d := kd.cell_some a1 fun h => h
              have a2d := kd.cell_some a2 fun h => h
              have a3d := kd.cell_some a3 fun h => h
              have hzd := hz6
              have e0' := hzd.cell 0
              have e1' := hzd.cell 1
              have e2' := hzd.cell 2
              have e3' := hzd.cell 3
              have g0 := hzd.frozen 0
              have g1 := hzd.frozen 1
              have g2 := hzd.frozen 2
              have g3 := hzd.frozen 3
              have hxx : ¬ x = x + 1 := by omega
              have kk : Kp (At (x + 1)) w6 ((((w6.setCell ⟨x + 1, 0, none⟩ (.string b.name)).setCell ⟨x + 1, 1, none⟩ (i64 b.val)).setCell ⟨x + 1, 2, none⟩ (i64 (b.next + 1))).setCell ⟨x + 1, 3, none⟩ (.slice A5 n5 c5)).drew := (kp_set4 w6 (x + 1) (.string b.name) (i64 b.val) (i64 (b.next + 1)) (.slice A5 n5 c5)).drew
              refine draw (.take 0 (.take 1 (.take 2 (.take 3 (.alt 4 (.take 5 (.take 6 .done)) .stop))))) (by kernel_rfl) (fun wz => Kp (At (x + 1)) w6 wz) (Nw.kp kd _) ?_
              simp -dsimp [go_sem, f4, f8, a0d, a1d, a2d, a3d, hw2, e0', e1', e2', e3', g0, g1, g2, g3]
              repeat refine ⟨fun wz hz => by simp [hz.cell_some a0 hxx, hz.cell_some a1 hxx, hz.cell_some a2 hxx, hz.cell_some a3 hxx], ?_⟩
              refine ⟨kk, ?_⟩
              try simp -dsimp [go_sem]
              have n7 := n6.at_ kk fun k (e : k = x + 1) => by omega
              have hl1 : (b.L ++ [(⟨b.next, flags, date, body⟩ : Msg)]).length = n5 := by rw [hn5, List.length_append]; rfl
              refine ⟨⟨_, rfl, ⟨A5, c5, q ++ [(⟨b.next, flags, date, body⟩, .slice B5 body.length d5)], by simp only; rw [hl1], by simp [hq], by simp only; rw [hl1]; exact ho6.2.1, (ho6.kp kk (Off.of_blk fun k hk (e : k = x + 1) => by have := hA5 k hk; omega)).rd, fun a ha _ hk => ?_, fun p hp => ?_⟩⟩, n7⟩
              · have := hA5 a.block (by rw [ha]; rfl)
                have := hS _ hk
                omega
              · rcases List.mem_append.1 hp with hp | hp
                · exact (hb p hp).nw n7
                · obtain rfl := List.mem_singleton.1 hp
                  refine ⟨B5, d5, rfl, hr6.kp kk (fun a ha _ (e : a.block = x + 1) => ?_), fun a ha _ hk => ?_, hd5⟩
                  · have := hB5 a.block (by rw [ha]; rfl)
                    omega
                  · have := hB5 a.block (by rw [ha]; rfl)
                    have := hS _ hk
                    omega
    · have e0 : addB b flags date body = (b, 0, 1) := by unfold addB; rw [if_pos (by simp [hg])]
      rw [e0]
      simp -dsimp [go_sem, c0, c1, c2, c3, z0, z1, z2, z3, f0, f1, f2, f3, hg]
      have ks := kp_set4 wa (x + 1) (.string b.name) (i64 b.val) (i64 b.next) (.slice A b.L.length c)
      have n1 := n0.at_ ks fun k (e : k = x + 1) => by omega
      exact ⟨⟨_, rfl, h.nw n1⟩, n1⟩
  · have e0 : addB b flags date body = (b, 0, 1) := by unfold addB; rw [if_pos (by simp [hf])]
    rw [e0]
    simp -dsimp [go_sem, c0, c1, c2, c3, z0, z1, z2, z3, f0, f1, f2, f3, hf]
    have ks := kp_set4 wa (x + 1) (.string b.name) (i64 b.val) (i64 b.next) (.slice A b.L.length c)
    have n1 := n0.at_ ks fun k (e : k = x + 1) => by omega
    exact ⟨⟨_, rfl, h.nw n1⟩, n1⟩
end Go.Proofs.Ytindfpaahlijeaa
