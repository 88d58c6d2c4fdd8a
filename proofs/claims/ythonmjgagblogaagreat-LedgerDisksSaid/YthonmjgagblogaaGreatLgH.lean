/-
  A ledger: Write, Drop walked. By the session itself.
-/
import Derived.Test.YthonmjgagblogaaGreatLgG
namespace Go.Proofs.YthonmjgagblogaaGreat
set_option linter.unusedSimpArgs false
set_option linter.unusedVariables false
set_option maxRecDepth 100000
set_option maxHeartbeats 2000000
open Go.Vc Go.RowKit

theorem Lg.clear {w : World} {l g : Nat} {p : Nm} {L : Led} {G V : Nat → Prop} (h : Lg w l g p L G V) : Lg (w.setCell ⟨l, 4, none⟩ (.slice none 0 0)) l g p { L with ents := [] } G V ∧ Kp (At l) w (w.setCell ⟨l, 4, none⟩ (.slice none 0 0)) := by
  obtain ⟨B, d, A, c, vs, hb, hr, ho, hd, hA, hv, hAl, h1, h2, h3⟩ := h
  have hVl : V l := h2 _ (h1 _ (.inl rfl))
  have ks : Kp (At l) w (w.setCell ⟨l, 4, none⟩ (.slice none 0 0)) := (Kp.refl _ _).setCell_at _ _
  refine ⟨⟨B, d, none, 0, [], by simpa using hb.set 4 (.slice none 0 0), hr.kp ks (fun a ha hx (e : a.block = l) => ho a ha hx (e ▸ hVl)), ho, hd, Ow.nil _ _ _, RV.nil _ _, by simp [Off], fun k hk => hk.elim (fun e => h1 k (.inl e)) fun e => e.elim, h2, fun k hk => Nat.lt_of_lt_of_le (h3 k hk) ks.size⟩, ks⟩
theorem lWrite_ok {L : Led} (ok : L.Ok) (D : Dsk) (p : Nm) (n : Int) (b : List UInt8) : Led.Ok (lWrite D p L n b).2.1 := by
  unfold lWrite
  split
  · exact ok
  · split
    · exact ok
    · split
      · exact ok
      · rename_i h1 h2 h3
        unfold wrL
        split
        · exact ⟨ok.last, ok.data, ok.ents⟩
        · exact ⟨by simp; omega, by simp only; omega, by simp⟩

theorem lwrite_spec (l g : Nat) (p : Nm) (D : Dsk) (L : Led) (F G V : Nat → Prop) (n : Int) (b : List UInt8) (X : Option Addr) (x : Nat) (w : World) (h : LS w l g p D L F G V) (hp : p.length ≤ 20) (ok : L.Ok) (hr : Rd w X (b.map u8)) (hX : Ofl X (b.map u8) V) (hx : b.length ≤ x) (hb : b.length ≤ 140737488355328) :
    Cal Tryz.prog 23 #[.pointer (some ⟨l, 0, none⟩), i64 n, .slice X b.length x] w fun v w' => v = i64 (lWrite D p L n b).2.2 ∧ ChR w w' l g p (lWrite D p L n b).1 (lWrite D p L n b).2.1 F G V := by
  have e0 : lWrite D p L n b = if L.dead then (D, L, 9) else if n < L.last ∨ 1099511627776 < n then (D, L, 1) else if 524288 < b.length then (D, L, 5) else
    wrL L (wrS (kSave D (imgN p) (numB n.toNat ++ rowB b)) (logN p)) n.toNat b := rfl
  have c5 := h.lg.c5
  have hlN : (logN p).length = p.length + 4 := by simp [logN]
  have hsN : (logN p).length ≤ 9223372036854775807 := by omega
  have hok := ok.last
  have hlast : L.last = L.base + L.ents.length := rfl
  refine enter Tryz.mixed Tryz.func23 rfl (by kernel_rfl) ?_
  cases hd : L.dead with
  | true =>
    rw [hd] at c5
    rw [hd, if_pos rfl] at e0
    rw [e0]
    simp -dsimp [go_sem, c5]
    exact ⟨F, G, V, h, Ch.nw (Kp.refl _ _)⟩
  | false =>
    rw [hd] at c5
    rw [hd, if_neg (by simp)] at e0
    simp -dsimp [go_sem, c5]
    refine call (last_spec l g p L G V w h.lg ok) ?_
    rintro v w1 ⟨rfl, hk1⟩
    by_cases hlo : n < L.last
    · rw [if_pos (.inl hlo)] at e0
      rw [e0]
      simp -dsimp [go_sem, hlo]
      exact ⟨F, G, V, h.nw hk1, Ch.nw hk1⟩
    by_cases hhi : 1099511627776 < n
    · rw [if_pos (.inr hhi)] at e0
      rw [e0]
      simp -dsimp [go_sem, hlo, hhi]
      exact ⟨F, G, V, h.nw hk1, Ch.nw hk1⟩
    rw [if_neg (by omega)] at e0
    by_cases hbig : 524288 < b.length
    · rw [if_pos hbig] at e0
      have hbig' : (524288 : Int) < (b.length : Int) := by omega
      rw [e0]
      simp -dsimp [go_sem, hlo, hhi, hbig, hbig']
      exact ⟨F, G, V, h.nw hk1, Ch.nw hk1⟩
    rw [if_neg hbig] at e0
    have hbig' : ¬ (524288 : Int) < (b.length : Int) := by omega
    obtain ⟨N, rfl⟩ : ∃ N : Nat, n = N := ⟨n.toNat, by omega⟩
    rw [Int.toNat_natCast] at e0
    have hlo' : ¬ N < L.last := by omega
    have hhi' : ¬ 1099511627776 < N := by omega
    simp -dsimp [go_sem, hlo, hhi, hlo', hhi', hbig, hbig']
    have kW : Nw w1 (w1.alloc (.cells #[.slice none 0 0] 88)) := (Kp.refl _ _).alloc _
    have hW0 := Wr.zero w1
    obtain ⟨q, hq⟩ : ∃ q, q = w1.heap.size := ⟨_, rfl⟩
    rw [← hq] at hW0 ⊢
    have n3 := hk1.nw kW
    have hqw : w.heap.size ≤ q := by rw [hq]; exact hk1.size
    have hw3 : (w1.alloc (.cells #[.slice none 0 0] 88)).heap.size = q + 1 := by simp [hq]
    generalize w1.alloc (.cells #[.slice none 0 0] 88) = w3 at *
    have kb : Nw w3 (w3.alloc (.cells #[i64 N] 3)) := (Kp.refl _ _).alloc _
    have hW3b := hW0.kp_ kb fun _ _ h => h
    refine call (wNums_spec q [] [(N : Int)] (At q) (some ⟨q + 1, 0, none⟩) 1 _ hW3b (Rd.fresh hw3.symm rfl) (fun a ha _ (e : a.block = q) => by cases ha; have e : q + 1 = q := e; omega) (by simp)) ?_
    rintro v w4 ⟨rfl, F4, hW4, hG4, hK4⟩
    have n4 : Nw w w4 := (n3.nw kb).at_ hK4 fun k (e : k = q) => by omega
    have hF4 : ∀ k, F4 k → w.heap.size ≤ k := fun k hk => by
      rcases hG4 k hk with e | e
      · have e : k = q := e
        omega
      · exact Nat.le_trans (n3.nw kb).size e.1
    simp -dsimp [go_sem]
    have kc : Nw w4 (w4.alloc (.cells #[.slice X b.length x] 22)) := (Kp.refl _ _).alloc _
    have hW4b := hW4.kp_ kc fun _ _ h => h
    have hX4 : Ofl X (b.map u8) F4 := hr.ofl hF4
    refine call (wBytes_spec q _ [b] F4 (some ⟨w4.heap.size, 0, none⟩) 1 _ hW4b (brs_one1 (Blk.fresh rfl) (fun e => by have := hW4.lt_ _ e; omega) (hr.nw (n4.nw kc)) hX4 hx) (by
      have := numsB_len [(N : Int)]
      simp only [List.length_append, List.length_nil, List.length_singleton] at this ⊢
      simp [load]; omega)) ?_
    rintro v w5 ⟨rfl, F5, hW5, hG5, hK5⟩
    have n5 : Nw w w5 := (n4.nw kc).at_ hK5 hF4
    have hm62 : N ≤ 4611686018427387904 := by omega
    rw [entry_eq N b hm62] at hW5
    have hcl := entry_len N b hm62 (by omega)
    obtain ⟨C, hC⟩ : ∃ C, C = numB N ++ rowB b := ⟨_, rfl⟩
    rw [← hC] at hW5 hcl e0
    have h5 := h.nw n5
    simp -dsimp [go_sem]
    have q0 := LS.c0' h5
    have kq : Kp F w5 (World.drew w5) := (Kp.refl _ _).drew
    have kqN : Nw w5 (World.drew w5) := (Kp.refl _ _).drew
    have hqF := LS.lF h5
    have q0d := kq.cell_some q0 hqF
    have q1d := kqN.cell_some (LS.c1' h5) fun h => h
    refine draw (.take 0 (.take 1 (.take 2 (.take 3 (.take 4 (.alt 5 (.alt 6 (.alt 7 (.alt 8 (.take 9 .done) .stop) .stop) .stop) .stop)))))) (by kernel_rfl) (fun wz => Kp F w5 wz) kq ?_
    simp -dsimp [go_sem, q0d]
    refine ⟨fun wz hz => by simp [hz.cell_some q0 hqF], ?_⟩
    refine call (imgname_spec l p w5.drew q1d hp) ?_
    rintro v wq ⟨rfl, rfl⟩
    refine ⟨kq, ?_⟩
    simp -dsimp [go_sem]
    refine call (wOut_spec q C F5 _ (hW5.kp_ kqN fun _ _ h => h) (by omega)) ?_
    rintro v w6 ⟨hB6, hk6⟩
    obtain ⟨A6, c6, rfl, ho6, hA6⟩ := id hB6
    have n56 := kqN.nw hk6
    refine ⟨Nw.kp n56 _, ?_⟩
    simp -dsimp [go_sem]
    have kd : Nw w6 (w6.alloc (.cells #[.slice A6 C.length c6] 22)) := (Kp.refl _ _).alloc _
    have n57 := n56.nw kd
    refine ⟨Nw.kp n57 _, ?_⟩
    have hsv := ksave_spec (imgN p) [C] (some ⟨w6.heap.size, 0, none⟩) 1 g D F (fun _ => False) (w6.alloc (.cells #[.slice A6 C.length c6] 22)) (h5.dk.nw n57) (brs_one1 (Blk.fresh rfl) (fun h => h) (ho6.nw kd).rd (fun _ _ _ h => h) ho6.2.1) (by simp) (by simp) (by simp; omega)
    rw [show ([C] : List (List UInt8)).flatten = C by simp] at hsv
    refine call hsv ?_
    rintro v w8 ⟨rfl, F8, hD8, hG8, hK8⟩
    have hK58 := (Nw.kp n57 F).trans hK8 fun _ _ h => h
    refine ⟨hK58, ?_⟩
    have hG58 : Gr F F8 w5 w8 := Gr.wide hG8 n57.size (Nat.le_refl _)
    obtain ⟨h8, ch8⟩ := Ch.disk h5 hD8 hG58 hK58
    have cw8 := (Ch.nw n5 : Ch w w5 F F G G V V).trans ch8
    have hRX : Rd w8 X (b.map u8) := (hr.nw n5).kp hK58 (fun a ha hx hf => hX a ha hx (h.fv _ hf))
    obtain ⟨E, hE⟩ : ∃ E, E = kSave D (imgN p) C := ⟨_, rfl⟩
    rw [← hE] at e0 h8 ⊢
    obtain ⟨D8, e8⟩ := E
    simp only at h8 ⊢
    by_cases h0 : e8 = 0
    · subst h0
      have ea : wrS (D8, 0) (logN p) = rmvs D8 [logN p] := by unfold wrS; rw [if_neg (fun h => h rfl)]
      rw [ea] at e0
      simp -dsimp [go_sem]
      clear q0 kq kqN hqF q0d q1d
      have q0 := LS.c0' h8
      have kq : Kp F8 w8 (World.drew w8) := (Kp.refl _ _).drew
      have kqN : Nw w8 (World.drew w8) := (Kp.refl _ _).drew
      have hqF := LS.lF h8
      have q0d := kq.cell_some q0 hqF
      have q1d := kqN.cell_some (LS.c1' h8) fun h => h
      refine draw (.take 0 (.take 1 (.take 2 (.take 3 (.take 4 (.alt 5 (.alt 6 (.alt 7 (.take 8 .done) .stop) .stop) .stop)))))) (by kernel_rfl) (fun wz => Kp F8 w8 wz) kq ?_
      simp -dsimp [go_sem, q0d]
      refine ⟨fun wz hz => by simp [hz.cell_some q0 hqF], ?_⟩
      refine call (logname_spec l p w8.drew q1d hp) ?_
      rintro v wq ⟨rfl, rfl⟩
      refine ⟨kq, ?_⟩
      simp -dsimp [go_sem]
      have kb8 : Nw w8 (w8.alloc (.cells #[str (logN p)] 9)).drew := ((Kp.refl _ _).alloc _).drew
      refine ⟨Nw.kp kb8 _, ?_⟩
      refine call (removes_spec [logN p] _ 1 g D8 F8 _ (h8.dk.nw kb8) ((Rd.fresh (w := w8) rfl rfl).nw ((Kp.refl _ _).drew)) (h8.dk.ofl_new (Nat.le_refl _) _) (by simp) (by simpa using hsN)) ?_
      rintro v w9 ⟨rfl, F9, hD9, hG9, hK9⟩
      have hK89 := (Nw.kp kb8 F8).trans hK9 fun _ _ h => h
      refine ⟨hK89, ?_⟩
      obtain ⟨h9, ch9⟩ := Ch.disk h8 hD9 (Gr.wide hG9 kb8.size (Nat.le_refl _)) hK89
      have cw9 := cw8.trans ch9
      have hRX9 : Rd w9 X (b.map u8) := hRX.kp hK89 (fun a ha hx hf => (hG58 _ hf).elim (fun e => hX a ha hx (h.fv _ e)) fun e => (hr.nw n5).ofl (S := fun k => w5.heap.size ≤ k) (fun _ h => h) a ha hx e.1)
      obtain ⟨E, hE⟩ : ∃ E, E = rmvs D8 [logN p] := ⟨_, rfl⟩
      rw [← hE] at e0 h9 ⊢
      obtain ⟨DE, e9⟩ := E
      simp only at h9 ⊢
      by_cases h0 : e9 = 0
      · subst h0
        simp -dsimp [go_sem]
        refine call (dies0_spec l g p L G _ w9 h9.lg hd) ?_
        rintro v wd ⟨rfl, lgd, kdd⟩
        have hGl := h9.lg.gl
        obtain ⟨hLd, chd⟩ := Ch.own h9 lgd (fun _ h => .inl h) (fun _ h => .inl h) (fun _ h => h) (kdd.mono fun k _ (e : k = l) => e ▸ hGl)
        have ccd := cw9.trans chd
        have hRd : Rd wd X (b.map u8) := hRX9.kp kdd (fun a ha hx (e : a.block = l) => hX a ha hx (e ▸ h.lg.gv l h.lg.gl))
        have hap : wrL L (DE, 0) N b = (DE, ⟨N, b, [], false⟩, 0) := by unfold wrL; rw [if_neg (fun h => h rfl)]
        rw [hap] at e0
        rw [e0]
        simp -dsimp [go_sem]
        refine call (clone_spec X x b wd hRd (by omega)) ?_
        rintro v we ⟨hBe, hke⟩
        have hLe := hLd.nw hke
        obtain ⟨lg1, k1⟩ := hLe.lg.set N hBe (fun k hk => hLd.lg.lt k hk)
        obtain ⟨lg2, k2⟩ := lg1.clear
        obtain ⟨Ye, ye, rfl, hoe, hYe⟩ := id hBe
        obtain ⟨B0, d0, A0, c00, vs0, hb5, _⟩ := id hLe.lg
        have q2 := hb5.cell 2
        have q3 := hb5.cell 3
        have q4 := hb5.cell 4
        have f2 := hb5.frozen 2
        have f3 := hb5.frozen 3
        have f4 := hb5.frozen 4
        have k12 := k1.trans k2 fun _ _ h => h
        obtain ⟨hLf, chf⟩ := Ch.own hLe lg2 (fun _ h => .inl h) (fun _ h => .inl h) (fun _ h => h) (k12.mono fun k _ (e : k = l) => e ▸ hGl)
        have eL : ({ ({ L with base := N, data := b } : Led) with ents := [] } : Led) = ⟨N, b, [], false⟩ := by rw [← hd]
        rw [eL] at hLf
        obtain ⟨bl, hbl⟩ : ∃ bl, bl = b.length := ⟨_, rfl⟩
        rw [← hbl] at hLf chf ⊢
        simp -dsimp [go_sem, q2, q3, q4, f2, f3, f4]
        exact ⟨_, _, _, hLf, (ccd.trans (Ch.nw hke)).trans chf⟩
      · have h0b : ((e9 : Int) == 0) = false := by simp; omega
        simp -dsimp [go_sem]
        refine call (dies_spec e9 l g p L G _ w9 (LS.lg h9)) ?_
        rintro v wd ⟨rfl, lgd, kdd⟩
        have hGl := Lg.gl (LS.lg h9)
        have edd : ({ L with dead := L.dead || decide (e9 ≠ 0) } : Led) = { L with dead := true } := by rw [hd]; simp [h0]
        rw [edd] at lgd
        obtain ⟨hLd, chd⟩ := Ch.own h9 lgd (fun _ h => .inl h) (fun _ h => .inl h) (fun _ h => h) (kdd.mono fun k _ (e : k = l) => e ▸ hGl)
        have hap : wrL L (DE, e9) N b = (DE, { L with dead := true }, e9) := by unfold wrL; rw [if_pos h0]
        rw [hap] at e0
        rw [e0]
        simp -dsimp [go_sem, h0b, h0b]
        exact ⟨_, _, _, hLd, Ch.trans cw9 chd⟩
    · have h0b : ((e8 : Int) == 0) = false := by simp; omega
      have ea : wrS (D8, e8) (logN p) = (D8, e8) := by unfold wrS; rw [if_pos h0]
      rw [ea] at e0
      obtain ⟨DE, hDE⟩ : ∃ DE, DE = D8 := ⟨_, rfl⟩
      rw [← hDE] at e0 h8
      simp -dsimp [go_sem, h0b]
      refine call (dies_spec e8 l g p L G _ w8 (LS.lg h8)) ?_
      rintro v wd ⟨rfl, lgd, kdd⟩
      have hGl := Lg.gl (LS.lg h8)
      have edd : ({ L with dead := L.dead || decide (e8 ≠ 0) } : Led) = { L with dead := true } := by rw [hd]; simp [h0]
      rw [edd] at lgd
      obtain ⟨hLd, chd⟩ := Ch.own h8 lgd (fun _ h => .inl h) (fun _ h => .inl h) (fun _ h => h) (kdd.mono fun k _ (e : k = l) => e ▸ hGl)
      have hap : wrL L (DE, e8) N b = (DE, { L with dead := true }, e8) := by unfold wrL; rw [if_pos h0]
      rw [hap] at e0
      rw [e0]
      simp -dsimp [go_sem, h0b, h0b]
      exact ⟨_, _, _, hLd, Ch.trans cw8 chd⟩
end Go.Proofs.YthonmjgagblogaaGreat
