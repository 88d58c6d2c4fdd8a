/-
  The reference's Decode walked. By the session itself.
-/
import Derived.Test.YtindfpaahlijeaaDoorBkH
import Derived.Test.YtindfpaahlijeaaDoorOctT
namespace Go.Proofs.YtindfpaahlijeaaDoor
set_option linter.unusedSimpArgs false
set_option linter.unusedVariables false
set_option maxRecDepth 100000
set_option maxHeartbeats 2000000
open Go.Vc Go.RowKit

theorem rdecode_spec (p : List UInt8) (A : Option Addr) (c : Nat) (w : World) (hr : Rd w A (p.map u8)) (hc : p.length ≤ c) (hl : p.length ≤ 1000000000) :
    Cal Tryd.prog 12 #[.slice A p.length c] w fun v w' => DecR v w' p w.heap.size ∧ Nw w w' := by
  have eread : rxRead p = (⟨⟨(bytL p false).1.toArray⟩, (numL (bytL p false).2.1 (bytL p false).2.2).1, (nm2 (bytL p false).2.1 (bytL p false).2.2).1, (bxL (min (nm3 (bytL p false).2.1 (bytL p false).2.2).1 25) (nm3 (bytL p false).2.1 (bytL p false).2.2).2.1 (nm3 (bytL p false).2.1 (bytL p false).2.2).2.2 []).1⟩,
    (bxL (min (nm3 (bytL p false).2.1 (bytL p false).2.2).1 25) (nm3 (bytL p false).2.1 (bytL p false).2.2).2.1 (nm3 (bytL p false).2.1 (bytL p false).2.2).2.2 []).2.1, (bxL (min (nm3 (bytL p false).2.1 (bytL p false).2.2).1 25) (nm3 (bytL p false).2.1 (bytL p false).2.2).2.1 (nm3 (bytL p false).2.1 (bytL p false).2.2).2.2 []).2.2) := rfl
  have hsz1 := bytL_size p false
  have hsz3 := nm3_len (bytL p false).2.1 (bytL p false).2.2
  refine enter Tryd.mixed Tryd.func12 rfl (by kernel_rfl) ?_
  have k0 : Nw w (w.alloc (.cells #[.string ⟨#[]⟩, i64 0, i64 0, .slice none 0 0] 24)) := (Kp.refl _ _).alloc _
  have hr0 := Blk.new w 24 #[.string ⟨#[]⟩, i64 0, i64 0, .slice none 0 0]
  have sr : (w.alloc (.cells #[.string ⟨#[]⟩, i64 0, i64 0, .slice none 0 0] 24)).heap.size = w.heap.size + 1 := by simp
  obtain ⟨r0, hr0'⟩ : ∃ r0, r0 = w.heap.size := ⟨_, rfl⟩
  simp -dsimp [go_sem]
  rw [← hr0'] at hr0 sr ⊢
  generalize w.alloc (.cells #[.string ⟨#[]⟩, i64 0, i64 0, .slice none 0 0] 24) = wa at *
  have hr0s := hr0.lt
  have kh : Nw wa (wa.alloc (.cells #[.slice A p.length c, .bool false] 62)) := (Kp.refl _ _).alloc _
  have hRd := RefR.new (hr.nw k0) hc
  have shh : (wa.alloc (.cells #[.slice A p.length c, .bool false] 62)).heap.size = wa.heap.size + 1 := by simp
  rw [sr] at hRd shh
  obtain ⟨h, hh⟩ : ∃ h, h = r0 + 1 := ⟨_, rfl⟩
  rw [← hh] at hRd shh ⊢
  have hr1 := hr0.nw kh
  have n1 := k0.nw kh
  generalize wa.alloc (.cells #[.slice A p.length c, .bool false] 62) = w1 at *
  obtain ⟨F, hFd⟩ : ∃ F : Nat → Prop, F = fun k => k = h ∨ (p ≠ [] ∧ blk A k) := ⟨_, rfl⟩
  rw [← hFd] at hRd
  have hFlt : ∀ k, F k → k < w1.heap.size := hRd.lt_
  have hFr : ∀ k, F k → k ≠ r0 := fun k hk e => by
    rw [hFd] at hk
    rcases hk with hk | ⟨hne, hk⟩
    · omega
    · obtain ⟨a, ha, rfl⟩ := blk_of hk
      exact (hr.ofl (S := fun i => w.heap.size ≤ i) fun i hi => hi) a ha (by simpa using hne) (by omega)
  clear hFd
  refine call (refBytesT_spec h p false F w1 hRd (by omega)) ?_
  rintro v w2 ⟨hB2, hRd2, hk2⟩
  have n2 : Nw w w2 := n1.at_ hk2 fun k (e : k = h) => by omega
  have hr2 := hr1.kp hk2 fun (e : r0 = h) => by omega
  obtain ⟨X, xc, rfl, hoX, hX⟩ := id hB2
  have hcv : convR Tryd.prog 26 9 (.slice X (bytL p false).1.length xc) w2 = .ok (.string ⟨(bytL p false).1.toArray⟩) w2 := conv_str (e := 5) (by kernel_rfl) (by kernel_rfl) (by kernel_rfl) hoX.rd
  generalize (bytL p false).2.1 = l1 at *
  generalize (bytL p false).2.2 = bad1 at *
  obtain ⟨nb, hnb⟩ : ∃ nb, nb = (bytL p false).1 := ⟨_, rfl⟩
  rw [← hnb] at hcv hsz1 eread ⊢
  have ll1 := numL_len l1 bad1
  have ll2 := nm2_len l1 bad1
  obtain ⟨val, hval⟩ : ∃ val, val = (numL l1 bad1).1 := ⟨_, rfl⟩
  obtain ⟨nxt, hnxt⟩ : ∃ nxt, nxt = (nm2 l1 bad1).1 := ⟨_, rfl⟩
  obtain ⟨n, hn⟩ : ∃ n, n = (nm3 l1 bad1).1 := ⟨_, rfl⟩
  simp -dsimp [go_sem, hcv]
  simp [go_sem]
  have a1 : Nw w2 (w2.alloc (.cells #[.string ⟨nb.toArray⟩, i64 0, i64 0, .slice none 0 0] 24)) := (Kp.refl _ _).alloc _
  have hx0 := Blk.new w2 24 #[.string ⟨nb.toArray⟩, i64 0, i64 0, .slice none 0 0]
  have sx : (w2.alloc (.cells #[.string ⟨nb.toArray⟩, i64 0, i64 0, .slice none 0 0] 24)).heap.size = w2.heap.size + 1 := by simp
  obtain ⟨x, hx⟩ : ∃ x, x = w2.heap.size := ⟨_, rfl⟩
  rw [← hx] at hx0 sx ⊢
  have hRd3 := hRd2.nw a1
  have hr3 := hr2.nw a1
  have n3 := n2.nw a1
  generalize w2.alloc (.cells #[.string ⟨nb.toArray⟩, i64 0, i64 0, .slice none 0 0] 24) = w3 at *
  have hw12 : w1.heap.size ≤ x := by have := hk2.size; omega
  have hFx : ∀ k, F k → k < x := fun k hk => by have := hFlt k hk; omega
  have hhF := hRd.in_
  have hhx : h < x := hFx h hhF
  refine call (refNumT_spec h l1 bad1 F w3 hRd3 (by omega)) ?_
  rintro v w4 ⟨rfl, hRd4, hk4⟩
  have hx4 := hx0.kp hk4 fun (e : x = h) => by omega
  have hr4 := hr3.kp hk4 fun (e : r0 = h) => by omega
  have n4 := n3.at_ hk4 fun k (e : k = h) => by omega
  have x1 := hx4.cell 1
  have f1 := hx4.frozen 1
  have hx5 : Blk (w4.setCell ⟨x, 1, none⟩ (i64 val)) x 24 #[.string ⟨nb.toArray⟩, i64 val, i64 0, .slice none 0 0] := by simpa using hx4.set 1 (i64 val)
  have kx5 : Kp (At x) w4 (w4.setCell ⟨x, 1, none⟩ (i64 val)) := (Kp.refl _ _).setCell_at _ _
  rw [← hval]
  have hRd5 := hRd4.kp_ kx5 fun i hi (e : i = x) => by have := hFx i hi; omega
  have hr5 := hr4.kp kx5 fun (e : r0 = x) => by omega
  have n5 := n4.at_ kx5 fun k (e : k = x) => by omega
  simp -dsimp [go_sem, x1, f1]
  generalize w4.setCell ⟨x, 1, none⟩ (i64 val) = w5 at *
  refine call (refNumT_spec h _ _ F w5 hRd5 (by omega)) ?_
  rintro v w6 ⟨rfl, hRd6, hk6⟩
  have hx6 := hx5.kp hk6 fun (e : x = h) => by omega
  have hr6 := hr5.kp hk6 fun (e : r0 = h) => by omega
  have n6 := n5.at_ hk6 fun k (e : k = h) => by omega
  have x2 := hx6.cell 2
  have f2 := hx6.frozen 2
  have hx7 : Blk (w6.setCell ⟨x, 2, none⟩ (i64 nxt)) x 24 #[.string ⟨nb.toArray⟩, i64 val, i64 nxt, .slice none 0 0] := by simpa using hx6.set 2 (i64 nxt)
  have kx7 : Kp (At x) w6 (w6.setCell ⟨x, 2, none⟩ (i64 nxt)) := (Kp.refl _ _).setCell_at _ _
  have e2 : numL (numL l1 bad1).2.1 (numL l1 bad1).2.2 = nm2 l1 bad1 := rfl
  rw [e2] at hRd6 ⊢
  rw [← hnxt]
  have hRd7 := hRd6.kp_ kx7 fun i hi (e : i = x) => by have := hFx i hi; omega
  have hr7 := hr6.kp kx7 fun (e : r0 = x) => by omega
  have n7 := n6.at_ kx7 fun k (e : k = x) => by omega
  simp -dsimp [go_sem, x2, f2]
  generalize w6.setCell ⟨x, 2, none⟩ (i64 nxt) = w7 at *
  refine call (refNumT_spec h _ _ F w7 hRd7 (by omega)) ?_
  rintro v w8 ⟨rfl, hRd8, hk8⟩
  have hx8 := hx7.kp hk8 fun (e : x = h) => by omega
  have hr8 := hr7.kp hk8 fun (e : r0 = h) => by omega
  have n8 := n7.at_ hk8 fun k (e : k = h) => by omega
  have e3 : numL (nm2 l1 bad1).2.1 (nm2 l1 bad1).2.2 = nm3 l1 bad1 := rfl
  rw [e3] at hRd8 ⊢
  rw [← hval, ← hnxt, ← hn] at eread
  rw [← hn]
  generalize (nm3 l1 bad1).2.1 = l2 at *
  generalize (nm3 l1 bad1).2.2 = bad2 at *
  obtain ⟨B0, hB0⟩ : ∃ B0, B0 = x + 1 := ⟨_, rfl⟩
  have hB08 : B0 ≤ w8.heap.size := by have := hx8.lt; omega
  obtain ⟨N, hN⟩ : ∃ N, N = min n 25 := ⟨_, rfl⟩
  rw [← hN] at eread
  simp -dsimp [go_sem]
  refine loop [7, 8, 26, 27, 28, 29, 30, 31, 32, 33, 34, 35, 36, 37, 38, 39, 40, 41, 42, 43, 44, 45, 46, 47, 48, 49, 50, 51, 52, 53, 54, 55, 56, 57, 58, 59] (by kernel_rfl)
    (fun f w' => Box1 (fun a w' => ∃ (i k : Nat) (L : List Msg) (l : List UInt8) (bad : Bool) (vL : Value), a = i64 i ∧ i + k = N ∧ Blk w' x 24 #[.string ⟨nb.toArray⟩, i64 val, i64 nxt, vL] ∧ OL w' vL L B0 ∧ RefR w' h l bad F ∧ bxL N l2 bad2 [] = bxL k l bad L ∧
      L.length ≤ p.length + 1 ∧ (bad = false → L.length + l.length ≤ p.length) ∧ l.length ≤ p.length ∧ Nw w w' ∧ B0 ≤ w'.heap.size ∧ Blk w' r0 24 #[.string ⟨#[]⟩, i64 0, i64 0, .slice none 0 0]) (f 7) w') (fun f _ => N - (intOf (f 7)).toNat)
    ⟨0, N, [], l2, bad2, _, rfl, by omega, hx8, OL.nil _ _, hRd8, rfl, by simp, fun _ => by simp; omega, by omega, n8, hB08, hr8⟩ ?_
  rintro f w7 ⟨i, k, L, l, bad, vL, f7, hik, hx7, hO7, hRd7, hE, hL1, hL2, hL3, n7, hB7, hr7⟩
  obtain ⟨Ah, ch, hbh, _⟩ := id hRd7
  have h1c := hbh.cell 1
  by_cases hk0 : k = 0
  · subst hk0
    have hE : bxL N l2 bad2 [] = (L, l, bad) := hE
    by_cases hin : i < n
    · have hi25 : ¬ i ≤ 24 := by omega
      have hi25' : ¬ (i : Int) ≤ 24 := by omega
      cases bad with
      | true =>
        have er : rxRead p = (⟨⟨nb.toArray⟩, val, nxt, L⟩, l, true) := by rw [eread, hE]
        have hx0c := hx7.cell 0
        have hx1c := hx7.cell 1
        have hx2c := hx7.cell 2
        have hx3c := hx7.cell 3
        obtain ⟨q5, A5, d5, rfl, hq5, ho5, hA5, hd5⟩ := id hO7
        simp -dsimp [go_sem, f7, h1c, hin, hx0c, hx1c, hx2c, hx3c]
        have hOB : OB w7 (.agg #[.string ⟨nb.toArray⟩, i64 val, i64 nxt, .slice A5 L.length d5]) ⟨⟨nb.toArray⟩, val, nxt, L⟩ B0 := ⟨_, rfl, hO7⟩
        refine call (rencode_spec _ _ w7 hOB.rb.any (by show nb.toArray.size ≤ _; rw [List.size_toArray]; omega) (by show L.length ≤ _; omega)) ?_
        rintro v w9 ⟨hER, hk9⟩
        have hRd9 := hRd7.nw hk9
        have hr9 := hr7.nw hk9
        have hx9 := hx7.nw hk9
        have n9 := n7.nw hk9
        have hx0c := hx9.cell 0
        have hx1c := hx9.cell 1
        have hx2c := hx9.cell 2
        have hx3c := hx9.cell 3
        have r0c := hr9.cell 0
        have r1c := hr9.cell 1
        have r2c := hr9.cell 2
        have r3c := hr9.cell 3
        have r0f := hr9.frozen 0
        have r1f := hr9.frozen 1
        have r2f := hr9.frozen 2
        have r3f := hr9.frozen 3
        have hset : ∀ a b c d : Value, Kp (At r0) w9 ((((w9.setCell ⟨r0, 0, none⟩ a).setCell ⟨r0, 1, none⟩ b).setCell ⟨r0, 2, none⟩ c).setCell ⟨r0, 3, none⟩ d) := fun a b c d => ((((Kp.refl _ _).setCell_at _ _).setCell_at _ _).setCell_at _ _).setCell_at _ _
        have hOB9 := hOB.nw hk9
        have hokk : rxOk p = ((!true && l.isEmpty) && isB ⟨⟨nb.toArray⟩, val, nxt, L⟩ && decide (encX ⟨⟨nb.toArray⟩, val, nxt, L⟩ = p)) := by unfold rxOk; rw [er]
        rcases hER with ⟨hib, u, rfl, hBq⟩ | ⟨hib, rfl⟩
        · obtain ⟨Z, zc, rfl, hoZ, hZ⟩ := id hBq
          rw [hib] at hokk
          simp -dsimp [go_sem]
          refine call (refWhole_spec h l true F w9 hRd9) ?_
          rintro v w10 ⟨rfl, rfl⟩
          cases hwh : (!true && l.isEmpty) with
          | false =>
            rw [hwh] at hokk
            simp -dsimp [go_sem, r0c, r1c, r2c, r3c, r0f, r1f, r2f, r3f]
            exact ⟨rx_dec (.inr ⟨hokk, rfl⟩), n9.at_ (hset _ _ _ _) fun k (e : k = r0) => by omega⟩
          | true =>
            rw [hwh] at hokk
            have hcv1 : convR Tryd.prog 26 9 (.slice Z (encX ⟨⟨nb.toArray⟩, val, nxt, L⟩).length zc) w9 = .ok (.string ⟨(encX ⟨⟨nb.toArray⟩, val, nxt, L⟩).toArray⟩) w9 := conv_str (e := 5) (by kernel_rfl) (by kernel_rfl) (by kernel_rfl) hoZ.rd
            have hcv2 : convR Tryd.prog 26 9 (.slice A p.length c) w9 = .ok (.string ⟨p.toArray⟩) w9 := conv_str (e := 5) (by kernel_rfl) (by kernel_rfl) (by kernel_rfl) (hr.nw n9)
            by_cases hq : encX ⟨⟨nb.toArray⟩, val, nxt, L⟩ = p
            · rw [decide_eq_true hq] at hokk
              have hokk : rxOk p = true := hokk
              have hqb : (encX ⟨⟨nb.toArray⟩, val, nxt, L⟩ == p) = true := by simpa using hq
              generalize encX ⟨⟨nb.toArray⟩, val, nxt, L⟩ = E at *
              simp -dsimp [go_sem, hcv1, hcv2, hqb, hx0c, hx1c, hx2c, hx3c, r0c, r1c, r2c, r3c, r0f, r1f, r2f, r3f]
              refine ⟨rx_dec (.inl ⟨hokk, _, rfl, ?_⟩), n9.at_ (hset _ _ _ _) fun k (e : k = r0) => by omega⟩
              rw [er]
              exact (hOB9.kp (hset _ _ _ _) fun i hi _ (e : i = r0) => by omega).mono (by omega)
            · rw [decide_eq_false hq] at hokk
              have hokk : rxOk p = false := hokk
              have hqb : (encX ⟨⟨nb.toArray⟩, val, nxt, L⟩ == p) = false := by simpa using hq
              generalize encX ⟨⟨nb.toArray⟩, val, nxt, L⟩ = E at *
              simp -dsimp [go_sem, hcv1, hcv2, hqb, r0c, r1c, r2c, r3c, r0f, r1f, r2f, r3f]
              exact ⟨rx_dec (.inr ⟨hokk, rfl⟩), n9.at_ (hset _ _ _ _) fun k (e : k = r0) => by omega⟩
        · rw [hib, Bool.and_false, Bool.false_and] at hokk
          simp -dsimp [go_sem]
          refine call (refWhole_spec h l true F w9 hRd9) ?_
          rintro v w10 ⟨rfl, rfl⟩
          cases hwh : (!true && l.isEmpty) with
          | false =>
            simp -dsimp [go_sem, r0c, r1c, r2c, r3c, r0f, r1f, r2f, r3f]
            exact ⟨rx_dec (.inr ⟨hokk, rfl⟩), n9.at_ (hset _ _ _ _) fun k (e : k = r0) => by omega⟩
          | true =>
            simp -dsimp [go_sem, r0c, r1c, r2c, r3c, r0f, r1f, r2f, r3f]
            exact ⟨rx_dec (.inr ⟨hokk, rfl⟩), n9.at_ (hset _ _ _ _) fun k (e : k = r0) => by omega⟩
      | false =>
        have er : rxRead p = (⟨⟨nb.toArray⟩, val, nxt, L⟩, l, false) := by rw [eread, hE]
        have hx0c := hx7.cell 0
        have hx1c := hx7.cell 1
        have hx2c := hx7.cell 2
        have hx3c := hx7.cell 3
        obtain ⟨q5, A5, d5, rfl, hq5, ho5, hA5, hd5⟩ := id hO7
        simp -dsimp [go_sem, f7, h1c, hin, hi25, hi25', hx0c, hx1c, hx2c, hx3c]
        have hOB : OB w7 (.agg #[.string ⟨nb.toArray⟩, i64 val, i64 nxt, .slice A5 L.length d5]) ⟨⟨nb.toArray⟩, val, nxt, L⟩ B0 := ⟨_, rfl, hO7⟩
        refine call (rencode_spec _ _ w7 hOB.rb.any (by show nb.toArray.size ≤ _; rw [List.size_toArray]; omega) (by show L.length ≤ _; omega)) ?_
        rintro v w9 ⟨hER, hk9⟩
        have hRd9 := hRd7.nw hk9
        have hr9 := hr7.nw hk9
        have hx9 := hx7.nw hk9
        have n9 := n7.nw hk9
        have hx0c := hx9.cell 0
        have hx1c := hx9.cell 1
        have hx2c := hx9.cell 2
        have hx3c := hx9.cell 3
        have r0c := hr9.cell 0
        have r1c := hr9.cell 1
        have r2c := hr9.cell 2
        have r3c := hr9.cell 3
        have r0f := hr9.frozen 0
        have r1f := hr9.frozen 1
        have r2f := hr9.frozen 2
        have r3f := hr9.frozen 3
        have hset : ∀ a b c d : Value, Kp (At r0) w9 ((((w9.setCell ⟨r0, 0, none⟩ a).setCell ⟨r0, 1, none⟩ b).setCell ⟨r0, 2, none⟩ c).setCell ⟨r0, 3, none⟩ d) := fun a b c d => ((((Kp.refl _ _).setCell_at _ _).setCell_at _ _).setCell_at _ _).setCell_at _ _
        have hOB9 := hOB.nw hk9
        have hokk : rxOk p = ((!false && l.isEmpty) && isB ⟨⟨nb.toArray⟩, val, nxt, L⟩ && decide (encX ⟨⟨nb.toArray⟩, val, nxt, L⟩ = p)) := by unfold rxOk; rw [er]
        rcases hER with ⟨hib, u, rfl, hBq⟩ | ⟨hib, rfl⟩
        · obtain ⟨Z, zc, rfl, hoZ, hZ⟩ := id hBq
          rw [hib] at hokk
          simp -dsimp [go_sem]
          refine call (refWhole_spec h l false F w9 hRd9) ?_
          rintro v w10 ⟨rfl, rfl⟩
          cases hwh : (!false && l.isEmpty) with
          | false =>
            rw [hwh] at hokk
            simp -dsimp [go_sem, r0c, r1c, r2c, r3c, r0f, r1f, r2f, r3f]
            exact ⟨rx_dec (.inr ⟨hokk, rfl⟩), n9.at_ (hset _ _ _ _) fun k (e : k = r0) => by omega⟩
          | true =>
            rw [hwh] at hokk
            have hcv1 : convR Tryd.prog 26 9 (.slice Z (encX ⟨⟨nb.toArray⟩, val, nxt, L⟩).length zc) w9 = .ok (.string ⟨(encX ⟨⟨nb.toArray⟩, val, nxt, L⟩).toArray⟩) w9 := conv_str (e := 5) (by kernel_rfl) (by kernel_rfl) (by kernel_rfl) hoZ.rd
            have hcv2 : convR Tryd.prog 26 9 (.slice A p.length c) w9 = .ok (.string ⟨p.toArray⟩) w9 := conv_str (e := 5) (by kernel_rfl) (by kernel_rfl) (by kernel_rfl) (hr.nw n9)
            by_cases hq : encX ⟨⟨nb.toArray⟩, val, nxt, L⟩ = p
            · rw [decide_eq_true hq] at hokk
              have hokk : rxOk p = true := hokk
              have hqb : (encX ⟨⟨nb.toArray⟩, val, nxt, L⟩ == p) = true := by simpa using hq
              generalize encX ⟨⟨nb.toArray⟩, val, nxt, L⟩ = E at *
              simp -dsimp [go_sem, hcv1, hcv2, hqb, hx0c, hx1c, hx2c, hx3c, r0c, r1c, r2c, r3c, r0f, r1f, r2f, r3f]
              refine ⟨rx_dec (.inl ⟨hokk, _, rfl, ?_⟩), n9.at_ (hset _ _ _ _) fun k (e : k = r0) => by omega⟩
              rw [er]
              exact (hOB9.kp (hset _ _ _ _) fun i hi _ (e : i = r0) => by omega).mono (by omega)
            · rw [decide_eq_false hq] at hokk
              have hokk : rxOk p = false := hokk
              have hqb : (encX ⟨⟨nb.toArray⟩, val, nxt, L⟩ == p) = false := by simpa using hq
              generalize encX ⟨⟨nb.toArray⟩, val, nxt, L⟩ = E at *
              simp -dsimp [go_sem, hcv1, hcv2, hqb, r0c, r1c, r2c, r3c, r0f, r1f, r2f, r3f]
              exact ⟨rx_dec (.inr ⟨hokk, rfl⟩), n9.at_ (hset _ _ _ _) fun k (e : k = r0) => by omega⟩
        · rw [hib, Bool.and_false, Bool.false_and] at hokk
          simp -dsimp [go_sem]
          refine call (refWhole_spec h l false F w9 hRd9) ?_
          rintro v w10 ⟨rfl, rfl⟩
          cases hwh : (!false && l.isEmpty) with
          | false =>
            simp -dsimp [go_sem, r0c, r1c, r2c, r3c, r0f, r1f, r2f, r3f]
            exact ⟨rx_dec (.inr ⟨hokk, rfl⟩), n9.at_ (hset _ _ _ _) fun k (e : k = r0) => by omega⟩
          | true =>
            simp -dsimp [go_sem, r0c, r1c, r2c, r3c, r0f, r1f, r2f, r3f]
            exact ⟨rx_dec (.inr ⟨hokk, rfl⟩), n9.at_ (hset _ _ _ _) fun k (e : k = r0) => by omega⟩
    · have er : rxRead p = (⟨⟨nb.toArray⟩, val, nxt, L⟩, l, bad) := by rw [eread, hE]
      have hx0c := hx7.cell 0
      have hx1c := hx7.cell 1
      have hx2c := hx7.cell 2
      have hx3c := hx7.cell 3
      obtain ⟨q5, A5, d5, rfl, hq5, ho5, hA5, hd5⟩ := id hO7
      simp -dsimp [go_sem, f7, h1c, hin, hx0c, hx1c, hx2c, hx3c]
      have hOB : OB w7 (.agg #[.string ⟨nb.toArray⟩, i64 val, i64 nxt, .slice A5 L.length d5]) ⟨⟨nb.toArray⟩, val, nxt, L⟩ B0 := ⟨_, rfl, hO7⟩
      refine call (rencode_spec _ _ w7 hOB.rb.any (by show nb.toArray.size ≤ _; rw [List.size_toArray]; omega) (by show L.length ≤ _; omega)) ?_
      rintro v w9 ⟨hER, hk9⟩
      have hRd9 := hRd7.nw hk9
      have hr9 := hr7.nw hk9
      have hx9 := hx7.nw hk9
      have n9 := n7.nw hk9
      have hx0c := hx9.cell 0
      have hx1c := hx9.cell 1
      have hx2c := hx9.cell 2
      have hx3c := hx9.cell 3
      have r0c := hr9.cell 0
      have r1c := hr9.cell 1
      have r2c := hr9.cell 2
      have r3c := hr9.cell 3
      have r0f := hr9.frozen 0
      have r1f := hr9.frozen 1
      have r2f := hr9.frozen 2
      have r3f := hr9.frozen 3
      have hset : ∀ a b c d : Value, Kp (At r0) w9 ((((w9.setCell ⟨r0, 0, none⟩ a).setCell ⟨r0, 1, none⟩ b).setCell ⟨r0, 2, none⟩ c).setCell ⟨r0, 3, none⟩ d) := fun a b c d => ((((Kp.refl _ _).setCell_at _ _).setCell_at _ _).setCell_at _ _).setCell_at _ _
      have hOB9 := hOB.nw hk9
      have hokk : rxOk p = ((!bad && l.isEmpty) && isB ⟨⟨nb.toArray⟩, val, nxt, L⟩ && decide (encX ⟨⟨nb.toArray⟩, val, nxt, L⟩ = p)) := by unfold rxOk; rw [er]
      rcases hER with ⟨hib, u, rfl, hBq⟩ | ⟨hib, rfl⟩
      · obtain ⟨Z, zc, rfl, hoZ, hZ⟩ := id hBq
        rw [hib] at hokk
        simp -dsimp [go_sem]
        refine call (refWhole_spec h l bad F w9 hRd9) ?_
        rintro v w10 ⟨rfl, rfl⟩
        cases hwh : (!bad && l.isEmpty) with
        | false =>
          rw [hwh] at hokk
          simp -dsimp [go_sem, r0c, r1c, r2c, r3c, r0f, r1f, r2f, r3f]
          exact ⟨rx_dec (.inr ⟨hokk, rfl⟩), n9.at_ (hset _ _ _ _) fun k (e : k = r0) => by omega⟩
        | true =>
          rw [hwh] at hokk
          have hcv1 : convR Tryd.prog 26 9 (.slice Z (encX ⟨⟨nb.toArray⟩, val, nxt, L⟩).length zc) w9 = .ok (.string ⟨(encX ⟨⟨nb.toArray⟩, val, nxt, L⟩).toArray⟩) w9 := conv_str (e := 5) (by kernel_rfl) (by kernel_rfl) (by kernel_rfl) hoZ.rd
          have hcv2 : convR Tryd.prog 26 9 (.slice A p.length c) w9 = .ok (.string ⟨p.toArray⟩) w9 := conv_str (e := 5) (by kernel_rfl) (by kernel_rfl) (by kernel_rfl) (hr.nw n9)
          by_cases hq : encX ⟨⟨nb.toArray⟩, val, nxt, L⟩ = p
          · rw [decide_eq_true hq] at hokk
            have hokk : rxOk p = true := hokk
            have hqb : (encX ⟨⟨nb.toArray⟩, val, nxt, L⟩ == p) = true := by simpa using hq
            generalize encX ⟨⟨nb.toArray⟩, val, nxt, L⟩ = E at *
            simp -dsimp [go_sem, hcv1, hcv2, hqb, hx0c, hx1c, hx2c, hx3c, r0c, r1c, r2c, r3c, r0f, r1f, r2f, r3f]
            refine ⟨rx_dec (.inl ⟨hokk, _, rfl, ?_⟩), n9.at_ (hset _ _ _ _) fun k (e : k = r0) => by omega⟩
            rw [er]
            exact (hOB9.kp (hset _ _ _ _) fun i hi _ (e : i = r0) => by omega).mono (by omega)
          · rw [decide_eq_false hq] at hokk
            have hokk : rxOk p = false := hokk
            have hqb : (encX ⟨⟨nb.toArray⟩, val, nxt, L⟩ == p) = false := by simpa using hq
            generalize encX ⟨⟨nb.toArray⟩, val, nxt, L⟩ = E at *
            simp -dsimp [go_sem, hcv1, hcv2, hqb, r0c, r1c, r2c, r3c, r0f, r1f, r2f, r3f]
            exact ⟨rx_dec (.inr ⟨hokk, rfl⟩), n9.at_ (hset _ _ _ _) fun k (e : k = r0) => by omega⟩
      · rw [hib, Bool.and_false, Bool.false_and] at hokk
        simp -dsimp [go_sem]
        refine call (refWhole_spec h l bad F w9 hRd9) ?_
        rintro v w10 ⟨rfl, rfl⟩
        cases hwh : (!bad && l.isEmpty) with
        | false =>
          simp -dsimp [go_sem, r0c, r1c, r2c, r3c, r0f, r1f, r2f, r3f]
          exact ⟨rx_dec (.inr ⟨hokk, rfl⟩), n9.at_ (hset _ _ _ _) fun k (e : k = r0) => by omega⟩
        | true =>
          simp -dsimp [go_sem, r0c, r1c, r2c, r3c, r0f, r1f, r2f, r3f]
          exact ⟨rx_dec (.inr ⟨hokk, rfl⟩), n9.at_ (hset _ _ _ _) fun k (e : k = r0) => by omega⟩
  have hin : i < n := by omega
  have hi24 : i ≤ 24 := by omega
  have hi24' : (i : Int) ≤ 24 := by omega
  cases bad with
  | true =>
    rw [bxL_bad] at hE
    have er : rxRead p = (⟨⟨nb.toArray⟩, val, nxt, L⟩, l, true) := by rw [eread, hE]
    have hx0c := hx7.cell 0
    have hx1c := hx7.cell 1
    have hx2c := hx7.cell 2
    have hx3c := hx7.cell 3
    obtain ⟨q5, A5, d5, rfl, hq5, ho5, hA5, hd5⟩ := id hO7
    simp -dsimp [go_sem, f7, h1c, hin, hx0c, hx1c, hx2c, hx3c]
    have hOB : OB w7 (.agg #[.string ⟨nb.toArray⟩, i64 val, i64 nxt, .slice A5 L.length d5]) ⟨⟨nb.toArray⟩, val, nxt, L⟩ B0 := ⟨_, rfl, hO7⟩
    refine call (rencode_spec _ _ w7 hOB.rb.any (by show nb.toArray.size ≤ _; rw [List.size_toArray]; omega) (by show L.length ≤ _; omega)) ?_
    rintro v w9 ⟨hER, hk9⟩
    have hRd9 := hRd7.nw hk9
    have hr9 := hr7.nw hk9
    have hx9 := hx7.nw hk9
    have n9 := n7.nw hk9
    have hx0c := hx9.cell 0
    have hx1c := hx9.cell 1
    have hx2c := hx9.cell 2
    have hx3c := hx9.cell 3
    have r0c := hr9.cell 0
    have r1c := hr9.cell 1
    have r2c := hr9.cell 2
    have r3c := hr9.cell 3
    have r0f := hr9.frozen 0
    have r1f := hr9.frozen 1
    have r2f := hr9.frozen 2
    have r3f := hr9.frozen 3
    have hset : ∀ a b c d : Value, Kp (At r0) w9 ((((w9.setCell ⟨r0, 0, none⟩ a).setCell ⟨r0, 1, none⟩ b).setCell ⟨r0, 2, none⟩ c).setCell ⟨r0, 3, none⟩ d) := fun a b c d => ((((Kp.refl _ _).setCell_at _ _).setCell_at _ _).setCell_at _ _).setCell_at _ _
    have hOB9 := hOB.nw hk9
    have hokk : rxOk p = ((!true && l.isEmpty) && isB ⟨⟨nb.toArray⟩, val, nxt, L⟩ && decide (encX ⟨⟨nb.toArray⟩, val, nxt, L⟩ = p)) := by unfold rxOk; rw [er]
    rcases hER with ⟨hib, u, rfl, hBq⟩ | ⟨hib, rfl⟩
    · obtain ⟨Z, zc, rfl, hoZ, hZ⟩ := id hBq
      rw [hib] at hokk
      simp -dsimp [go_sem]
      refine call (refWhole_spec h l true F w9 hRd9) ?_
      rintro v w10 ⟨rfl, rfl⟩
      cases hwh : (!true && l.isEmpty) with
      | false =>
        rw [hwh] at hokk
        simp -dsimp [go_sem, r0c, r1c, r2c, r3c, r0f, r1f, r2f, r3f]
        exact ⟨rx_dec (.inr ⟨hokk, rfl⟩), n9.at_ (hset _ _ _ _) fun k (e : k = r0) => by omega⟩
      | true =>
        rw [hwh] at hokk
        have hcv1 : convR Tryd.prog 26 9 (.slice Z (encX ⟨⟨nb.toArray⟩, val, nxt, L⟩).length zc) w9 = .ok (.string ⟨(encX ⟨⟨nb.toArray⟩, val, nxt, L⟩).toArray⟩) w9 := conv_str (e := 5) (by kernel_rfl) (by kernel_rfl) (by kernel_rfl) hoZ.rd
        have hcv2 : convR Tryd.prog 26 9 (.slice A p.length c) w9 = .ok (.string ⟨p.toArray⟩) w9 := conv_str (e := 5) (by kernel_rfl) (by kernel_rfl) (by kernel_rfl) (hr.nw n9)
        by_cases hq : encX ⟨⟨nb.toArray⟩, val, nxt, L⟩ = p
        · rw [decide_eq_true hq] at hokk
          have hokk : rxOk p = true := hokk
          have hqb : (encX ⟨⟨nb.toArray⟩, val, nxt, L⟩ == p) = true := by simpa using hq
          generalize encX ⟨⟨nb.toArray⟩, val, nxt, L⟩ = E at *
          simp -dsimp [go_sem, hcv1, hcv2, hqb, hx0c, hx1c, hx2c, hx3c, r0c, r1c, r2c, r3c, r0f, r1f, r2f, r3f]
          refine ⟨rx_dec (.inl ⟨hokk, _, rfl, ?_⟩), n9.at_ (hset _ _ _ _) fun k (e : k = r0) => by omega⟩
          rw [er]
          exact (hOB9.kp (hset _ _ _ _) fun i hi _ (e : i = r0) => by omega).mono (by omega)
        · rw [decide_eq_false hq] at hokk
          have hokk : rxOk p = false := hokk
          have hqb : (encX ⟨⟨nb.toArray⟩, val, nxt, L⟩ == p) = false := by simpa using hq
          generalize encX ⟨⟨nb.toArray⟩, val, nxt, L⟩ = E at *
          simp -dsimp [go_sem, hcv1, hcv2, hqb, r0c, r1c, r2c, r3c, r0f, r1f, r2f, r3f]
          exact ⟨rx_dec (.inr ⟨hokk, rfl⟩), n9.at_ (hset _ _ _ _) fun k (e : k = r0) => by omega⟩
    · rw [hib, Bool.and_false, Bool.false_and] at hokk
      simp -dsimp [go_sem]
      refine call (refWhole_spec h l true F w9 hRd9) ?_
      rintro v w10 ⟨rfl, rfl⟩
      cases hwh : (!true && l.isEmpty) with
      | false =>
        simp -dsimp [go_sem, r0c, r1c, r2c, r3c, r0f, r1f, r2f, r3f]
        exact ⟨rx_dec (.inr ⟨hokk, rfl⟩), n9.at_ (hset _ _ _ _) fun k (e : k = r0) => by omega⟩
      | true =>
        simp -dsimp [go_sem, r0c, r1c, r2c, r3c, r0f, r1f, r2f, r3f]
        exact ⟨rx_dec (.inr ⟨hokk, rfl⟩), n9.at_ (hset _ _ _ _) fun k (e : k = r0) => by omega⟩
  | false =>
    have hi1 : IntKind.i64.wrap ((i : Int) + 1) = ((i + 1 : Nat) : Int) := by rw [w64 (by omega) (by omega)]; omega
    obtain ⟨i1, hi1'⟩ : ∃ i1, i1 = i + 1 := ⟨_, rfl⟩
    rw [← hi1'] at hi1
    obtain ⟨k1, hk1e⟩ : ∃ k1, k = k1 + 1 := ⟨k - 1, by omega⟩
    have hE1 : bxL k l false L = bxL k1 (msgL l false).2.1 (msgL l false).2.2 (L ++ [(msgL l false).1]) := by rw [hk1e]; simp [bxL]
    rw [hE1] at hE
    have hmu := @msgL_used l false
    have hms := msgL_size l false
    have em : msgL l false = (⟨(numL l false).1, (nm2 l false).1, (nm3 l false).1, (bytL (nm3 l false).2.1 (nm3 l false).2.2).1⟩, (bytL (nm3 l false).2.1 (nm3 l false).2.2).2.1, (bytL (nm3 l false).2.1 (nm3 l false).2.2).2.2) := rfl
    have q1 := numL_len l false
    have q2 := nm2_len l false
    have q3 := nm3_len l false
    simp -dsimp [go_sem, f7, h1c, hin, hi24, hi24']
    refine call (refNumT_spec h l false F w7 hRd7 (by omega)) ?_
    rintro v w8 ⟨rfl, hRd8, hk8⟩
    simp -dsimp [go_sem]
    simp [go_sem]
    have b1 : Nw w8 (w8.alloc (.cells #[i64 (numL l false).1, i64 0, i64 0, .slice none 0 0] 41)) := (Kp.refl _ _).alloc _
    have hy0 := Blk.new w8 41 #[i64 (numL l false).1, i64 0, i64 0, .slice none 0 0]
    have sy : (w8.alloc (.cells #[i64 (numL l false).1, i64 0, i64 0, .slice none 0 0] 41)).heap.size = w8.heap.size + 1 := by simp
    obtain ⟨y, hy⟩ : ∃ y, y = w8.heap.size := ⟨_, rfl⟩
    rw [← hy] at hy0 sy ⊢
    have hRd9 := hRd8.nw b1
    have hxy : B0 ≤ y := by have := hk8.size; omega
    have hFy : ∀ k, F k → k < y := fun k hk => by have := hFx k hk; omega
    have kk9 : Kp (fun k => k = h) w7 (w8.alloc (.cells #[i64 (numL l false).1, i64 0, i64 0, .slice none 0 0] 41)) := (hk8.mono fun k _ (e : k = h) => e).nw b1
    have hw7y : w7.heap.size ≤ y := by have := hk8.size; omega
    generalize w8.alloc (.cells #[i64 (numL l false).1, i64 0, i64 0, .slice none 0 0] 41) = w9 at *
    refine call (refNumT_spec h _ _ F w9 hRd9 (by omega)) ?_
    rintro v w10 ⟨rfl, hRd10, hk10⟩
    have e2 : numL (numL l false).2.1 (numL l false).2.2 = nm2 l false := rfl
    rw [e2] at hRd10 ⊢
    have hy10 := hy0.kp hk10 fun (e : y = h) => by omega
    have y1 := hy10.cell 1
    have g1 := hy10.frozen 1
    have hy11 : Blk (w10.setCell ⟨y, 1, none⟩ (i64 (nm2 l false).1)) y 41 #[i64 (numL l false).1, i64 (nm2 l false).1, i64 0, .slice none 0 0] := by simpa using hy10.set 1 (i64 (nm2 l false).1)
    have ky11 : Kp (At y) w10 (w10.setCell ⟨y, 1, none⟩ (i64 (nm2 l false).1)) := (Kp.refl _ _).setCell_at _ _
    have hRd11 := hRd10.kp_ ky11 fun i hi (e : i = y) => by have := hFy i hi; omega
    have kk11 := (kk9.trans hk10 fun k _ (e : k = h) => e).trans ky11 fun k hk (e : k = y) => by omega
    simp -dsimp [go_sem, y1, g1]
    generalize w10.setCell ⟨y, 1, none⟩ (i64 (nm2 l false).1) = w11 at *
    refine call (refNumT_spec h _ _ F w11 hRd11 (by omega)) ?_
    rintro v w12 ⟨rfl, hRd12, hk12⟩
    have e3 : numL (nm2 l false).2.1 (nm2 l false).2.2 = nm3 l false := rfl
    rw [e3] at hRd12 ⊢
    have hy12 := hy11.kp hk12 fun (e : y = h) => by omega
    have y2 := hy12.cell 2
    have g2 := hy12.frozen 2
    have hy13 : Blk (w12.setCell ⟨y, 2, none⟩ (i64 (nm3 l false).1)) y 41 #[i64 (numL l false).1, i64 (nm2 l false).1, i64 (nm3 l false).1, .slice none 0 0] := by simpa using hy12.set 2 (i64 (nm3 l false).1)
    have ky13 : Kp (At y) w12 (w12.setCell ⟨y, 2, none⟩ (i64 (nm3 l false).1)) := (Kp.refl _ _).setCell_at _ _
    have hRd13 := hRd12.kp_ ky13 fun i hi (e : i = y) => by have := hFy i hi; omega
    have kk13 := (kk11.trans hk12 fun k _ (e : k = h) => e).trans ky13 fun k hk (e : k = y) => by omega
    simp -dsimp [go_sem, y2, g2]
    generalize w12.setCell ⟨y, 2, none⟩ (i64 (nm3 l false).1) = w13 at *
    refine call (refBytesT_spec h _ _ F w13 hRd13 (by omega)) ?_
    rintro v w14 ⟨hB14, hRd14, hk14⟩
    have hy14 := hy13.kp hk14 fun (e : y = h) => by omega
    have hyw13 : y < w13.heap.size := hy13.lt
    have kk14 := kk13.trans hk14 fun k _ (e : k = h) => e
    have y3 := hy14.cell 3
    have g3 := hy14.frozen 3
    obtain ⟨Y, yc, rfl, hoY, hY⟩ := id hB14
    obtain ⟨M, hM⟩ : ∃ M, M = msgL l false := ⟨_, rfl⟩
    rw [← hM] at hE hmu hms em
    obtain ⟨m, l', bad'⟩ := M
    obtain ⟨u0, fl, dt, bd⟩ := m
    injection em with em1 em2
    injection em1 with e1 e2 e3 e4
    injection em2 with e5 e6
    rw [← e1, ← e2, ← e3] at hy14
    rw [← e5, ← e6] at hRd14
    rw [← e4] at hoY hB14 ⊢
    simp only at hE hmu hms
    have ks : Kp (At y) w14 (w14.setCell ⟨y, 3, none⟩ (.slice Y bd.length yc)) := (Kp.refl _ _).setCell_at _ _
    have hy15 : Blk (w14.setCell ⟨y, 3, none⟩ (.slice Y bd.length yc)) y 41 #[i64 u0, i64 fl, i64 dt, .slice Y bd.length yc] := by simpa using hy14.set 3 (.slice Y bd.length yc)
    have hB15 : Bs (w14.setCell ⟨y, 3, none⟩ (.slice Y bd.length yc)) (.slice Y bd.length yc) bd w13.heap.size := hB14.kp ks fun i hi _ (e : i = y) => by omega
    have kk := kk14.trans ks fun k hk (e : k = y) => by omega
    have hx14 := hx7.kp kk14 fun (e : x = h) => by omega
    have x314 := hx14.cell 3
    have hRd15 := hRd14.kp_ ks fun i hi (e : i = y) => by have := hFy i hi; omega
    simp -dsimp [go_sem, y3, g3]
    generalize w14.setCell ⟨y, 3, none⟩ (.slice Y bd.length yc) = w15 at *
    have y0 := hy15.cell 0
    have y1 := hy15.cell 1
    have y2 := hy15.cell 2
    have y3 := hy15.cell 3
    obtain ⟨q5, A5, d5, rfl, hq5, ho5, hA5, hd5⟩ := hO7
    have hx15 := hx7.kp kk fun (e : x = h) => by omega
    have x3 := hx15.cell 3
    have hA5lt := fun a ha => ho5.lt a ha
    have ho15 := ho5.kp kk fun a ha (e : a.block = h) => by have := hA5 a ha; omega
    have hd15 : ∀ p ∈ q5, BsA w15 p.2 p.1.body B0 A5 := fun p hp => (hd5 p hp).kp kk fun i hi _ _ (e : i = h) => by omega
    simp -dsimp [go_sem, x3, x314, y0, y1, y2, y3]
    have ka : Nw w15 (w15.alloc (.cells #[i64 u0, i64 fl, i64 dt, .slice Y bd.length yc] 41)) := (Kp.refl _ _).alloc _
    refine app Smsg (xs := mq q5) (n := L.length) (ho15.nw ka) (ys := mq [(⟨u0, fl, dt, bd⟩, .slice Y bd.length yc)]) (Rd.fresh rfl rfl) (m := 1) rfl (fun u hu => by
      simp [mq] at hu
      rcases hu with rfl | rfl | rfl | rfl
      · rfl
      · rfl
      · rfl
      · cases Y <;> rfl) (by omega) (by omega) ?_
    intro A7 d7 w16 ho16 hk16 hAA
    rw [← mq_app] at ho16
    have hmv : A7 = A5 ∨ ∃ a, A7 = some a ∧ (w15.alloc (.cells #[i64 u0, i64 fl, i64 dt, .slice Y bd.length yc] 41)).heap.size ≤ a.block := by
      rcases hAA with h | ⟨h, _⟩
      · exact .inl h
      · exact .inr ⟨_, h, Nat.le_refl _⟩
    have hw715 : w7.heap.size ≤ w15.heap.size := kk.size
    have hw713 : w7.heap.size ≤ w13.heap.size := by omega
    have hblA : ∀ k, blk A5 k → B0 ≤ k := fun k hk => by
      obtain ⟨a, rfl, rfl⟩ := blk_of hk
      exact hA5 a rfl
    obtain ⟨n16, hn16⟩ : ∃ n16, n16 = L.length + 1 := ⟨_, rfl⟩
    have hO16 : OL w16 (.slice A7 n16 d7) (L ++ [⟨u0, fl, dt, bd⟩]) B0 := by
      refine ⟨q5 ++ [(⟨u0, fl, dt, bd⟩, .slice Y bd.length yc)], A7, d7, by rw [List.length_append]; simp [hn16], by simp [hq5], by rw [List.length_append]; exact ho16, fun a ha => ?_, fun p hp => ?_⟩
      · rcases hmv with rfl | ⟨a', rfl, h⟩
        · exact hA5 a ha
        · cases ha
          exact Nat.le_trans (Nat.le_trans hB7 (Nat.le_trans hw715 ka.size)) h
      · rcases List.mem_append.1 hp with hp | hp
        · exact ((hd15 p hp).nw ka).grown hk16 hmv
        · rw [List.mem_singleton.1 hp]
          exact ((BsA.of hB15 (Nat.le_trans hB7 hw713) fun a ha => Nat.lt_of_lt_of_le (hA5lt a ha) hw713).nw ka).grown hk16 hmv
    have kx : Kp (blk A5) w15 w16 := (Nw.kp ka _).trans hk16 fun _ _ h => h
    have hx16 := hx15.kp kx fun e => by have := hblA x e; omega
    have hRd16 := hRd15.kp_ kx fun i hi e => by have := hblA i e; have := hFx i hi; omega
    have x33 := hx16.cell 3
    have fx3 := hx16.frozen 3
    have n15 : Nw w w15 := n7.at_ kk fun k (e : k = h) => by omega
    have n16' : Nw w w16 := n15.at_ kx fun k hk => by have := hblA k hk; omega
    have hr16 := (hr7.kp kk fun (e : r0 = h) => by omega).kp kx fun e => by have := hblA r0 e; omega
    rw [← hn16]
    have kx2 : Kp (At x) w16 (w16.setCell ⟨x, 3, none⟩ (.slice A7 n16 d7)) := (Kp.refl _ _).setCell_at _ _
    have hx17 : Blk (w16.setCell ⟨x, 3, none⟩ (.slice A7 n16 d7)) x 24 #[.string ⟨nb.toArray⟩, i64 val, i64 nxt, .slice A7 n16 d7] := by simpa using hx16.set 3 (.slice A7 n16 d7)
    have hO17 := hO16.kp kx2 fun i hi _ (e : i = x) => by omega
    have hRd17 := hRd16.kp_ kx2 fun i hi (e : i = x) => by have := hFx i hi; omega
    have n17 := n16'.at_ kx2 fun k (e : k = x) => by omega
    have hr17 := hr16.kp kx2 fun (e : r0 = x) => by omega
    simp -dsimp [go_sem, x33, fx3, f7, hi1]
    refine ⟨⟨i1, k1, L ++ [⟨u0, fl, dt, bd⟩], l', bad', _, rfl, by omega, hx17, hO17, hRd17, hE, ?_, fun e => ?_, by omega, n17, by have := kx.size; have := kx2.size; omega, hr17⟩, by simp [intOf]; omega⟩
    · have := hL2 rfl
      rw [List.length_append, List.length_singleton]; omega
    · have := hL2 rfl
      have := hmu e
      rw [List.length_append, List.length_singleton]; omega
end Go.Proofs.YtindfpaahlijeaaDoor
