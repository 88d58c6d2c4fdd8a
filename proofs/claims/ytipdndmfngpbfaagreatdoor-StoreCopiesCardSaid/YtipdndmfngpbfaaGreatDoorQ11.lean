/-
  box.Is walked. By the session itself. box.Encode walked. By the session itself. Bytes read as a box, in plain words; three numbers read at once. By the session itself. box.Decode walked. By the session itself. Numbers and rows read back: plain laws. By the session itself. BoxBack walked: a box that may be is read as it was. By the session itself. A change, a state of users and boxes: plain words. By the session itself. States that may be stay such. By the session itself.
-/
import Derived.Test.YtipdndmfngpbfaaGreatDoorQ10
import Derived.Test.YtipdndmfngpbfaaGreatDoorQ08
import Derived.Test.YtipdndmfngpbfaaGreatDoorQ03
import Derived.Test.YtipdndmfngpbfaaGreatDoorQ07
namespace Go.Proofs.YtipdndmfngpbfaaGreatDoor
set_option linter.unusedSimpArgs false
set_option linter.unusedVariables false
set_option maxRecDepth 100000
set_option maxHeartbeats 1000000
open Go.Vc Go.RowKit

theorem bin_spec (n lo hi : Int) (w : World) : Cal Tryz.prog 152 #[i64 n, i64 lo, i64 hi] w fun v w' => v = .bool (okF n lo hi) ∧ w' = w := by
  refine enter Tryz.mixed Tryz.func152 rfl (by kernel_rfl) ?_
  by_cases h1 : lo ≤ n
  · simp -dsimp [go_sem, h1, okF]
  · simp -dsimp [go_sem, h1, okF]
theorem bis_spec (v : Value) (b : Bx) (S : Nat → Prop) (w : World) (h : RB w v b S) (hn : b.name.size ≤ 9223372036854775807) (hll : b.L.length ≤ 9223372036854775807) :
    Cal Tryz.prog 208 #[v] w fun v' w' => v' = .bool (isB b) ∧ Nw w w' := by
  obtain ⟨A, c, q, rfl, hq, hc, hr, ho, hb⟩ := h
  have hql : q.length = b.L.length := by rw [← hq, List.length_map]
  refine enter Tryz.mixed Tryz.func208 rfl (by kernel_rfl) ?_
  have k0 : Nw w (w.alloc (.cells #[.string b.name, i64 b.val, i64 b.next, .slice A b.L.length c] 52)) := (Kp.refl _ _).alloc _
  have hb0 : Blk (w.alloc (.cells #[.string b.name, i64 b.val, i64 b.next, .slice A b.L.length c] 52)) w.heap.size 52 #[.string b.name, i64 b.val, i64 b.next, .slice A b.L.length c] := Blk.new _ _ _
  obtain ⟨x, hx⟩ : ∃ x, x = w.heap.size := ⟨_, rfl⟩
  simp -dsimp [go_sem]
  rw [← hx] at hb0 ⊢
  generalize w.alloc (.cells #[.string b.name, i64 b.val, i64 b.next, .slice A b.L.length c] 52) = wa at *
  refine loop [2, 3, 5, 9, 10, 11, 12, 13, 14, 15, 16, 17, 18, 19, 20, 21, 22, 23, 24, 25, 26, 27, 28, 29, 30, 31, 32, 33, 34, 35, 36, 37, 38, 39, 40, 41, 42, 43, 44] (by kernel_rfl)
    (fun f w' => Box2 (fun a l w' => ∃ i : Nat, a = i64 i ∧ i ≤ b.L.length ∧ msgsOk 0 b.next (b.L.take i) = true ∧ l = i64 (lastU (b.L.take i)) ∧ Nw wa w') (f 9) (f 3) w') (fun f _ => b.L.length - (intOf (f 9)).toNat)
    ⟨0, rfl, by omega, rfl, rfl, Kp.refl _ _⟩ ?_
  rintro f w' ⟨i, f9, hi, hok, f3, hK⟩
  have c0 := (hb0.nw hK).cell 0
  have c1 := (hb0.nw hK).cell 1
  have c2 := (hb0.nw hK).cell 2
  have c3 := (hb0.nw hK).cell 3
  by_cases hlt : i < b.L.length
  · have hi1 : IntKind.i64.wrap ((i : Int) + 1) = ((i + 1 : Nat) : Int) := by rw [w64 (by omega) (by omega)]; omega
    obtain ⟨i1, hi1'⟩ : ∃ i1, i1 = i + 1 := ⟨_, rfl⟩
    have htk : b.L.take i1 = b.L.take i ++ [b.L[i]] := by rw [hi1']; exact List.take_succ_eq_append_getElem hlt
    rw [← hi1'] at hi1
    have hltq : i < q.length := by omega
    obtain ⟨g, o, rfl, e0, e1, e2, e3⟩ := msg_at ((hr.nw k0).nw hK) hltq
    have hqi : q[i].1 = b.L[i] := by simp only [← hq, List.getElem_map]
    have hbq := hb _ (List.getElem_mem hltq)
    rw [hqi] at e0 e1 e2 hbq
    have hnext : msgsOk 0 b.next (b.L.take i1) = msgsOk (lastU (b.L.take i)) b.next [b.L[i]] := by rw [htk, msgsOk_app, hok]; rfl
    have hfail : msgsOk (lastU (b.L.take i)) b.next [b.L[i]] = false → isB b = false := fun h => by
      have h2 : b.L = b.L.take i1 ++ b.L.drop i1 := (List.take_append_drop i1 b.L).symm
      have h3 : msgsOk 0 b.next b.L = false := by
        conv => lhs; rw [h2]
        rw [msgsOk_app, hnext, h]; rfl
      unfold isB; rw [h3]; simp
    have hlast : lastU (b.L.take i1) = b.L[i].uid := by unfold lastU; rw [htk, List.getLast?_concat]; rfl
    generalize lastU (b.L.take i) = last at *
    generalize b.L[i] = m at *
    generalize q[i].2 = mv at *
    obtain ⟨Bm, dm, rfl, hrm, hom, hdm⟩ := hbq
    have ka : Nw w' (w'.alloc (.cells #[i64 m.uid, i64 m.flags, i64 m.date, .slice Bm m.body.length dm] 58)) := (Kp.refl _ _).alloc _
    have hq4 : Blk (w'.alloc (.cells #[i64 m.uid, i64 m.flags, i64 m.date, .slice Bm m.body.length dm] 58)) w'.heap.size 58 #[i64 m.uid, i64 m.flags, i64 m.date, .slice Bm m.body.length dm] := Blk.new _ _ _
    have y0 := hq4.cell 0
    have y1 := hq4.cell 1
    have y2 := hq4.cell 2
    have y3 := hq4.cell 3
    have c2a := ((hb0.nw hK).nw ka).cell 2
    have hKa := hK.nw ka
    have hone : msgsOk last b.next [m] = (decide (last < m.uid) && decide (m.uid < b.next) && okF m.flags 0 31 && okF m.date 0 1073741824 && decide (m.body.length ≤ 1200)) := by simp [msgsOk]
    rw [hone] at hnext hfail
    obtain ⟨z, hz⟩ : ∃ z, z = w'.heap.size := ⟨_, rfl⟩
    rw [← hz] at hq4 y0 y1 y2 y3
    by_cases g1 : m.uid ≤ last
    · have hf := hfail (by simp; omega)
      simp -dsimp [go_sem, f9, f3, hlt, e0, e1, e2, e3, y0, g1, hf]
      exact k0.nw hKa
    · by_cases g2 : b.next ≤ m.uid
      · have hf := hfail (by simp; omega)
        simp -dsimp [go_sem, f9, f3, hlt, e0, e1, e2, e3, y0, g1, g2, c2, c2a, hf]
        exact k0.nw hKa
      · simp -dsimp [go_sem, f9, f3, hlt, e0, e1, e2, e3, y0, y1, g1, g2, c2, c2a]
        rw [← hz]
        generalize w'.alloc (.cells #[i64 m.uid, i64 m.flags, i64 m.date, .slice Bm m.body.length dm] 58) = w4 at *
        refine call (bin_spec m.flags 0 31 w4) ?_
        rintro v5 w5 ⟨rfl, rfl⟩
        cases hfl : okF m.flags 0 31 with
        | false =>
          have hf := hfail (by rw [hfl]; simp)
          simp -dsimp [go_sem, hf]
          exact k0.nw hKa
        | true =>
          simp -dsimp [go_sem, y2]
          refine call (bin_spec m.date 0 1073741824 _) ?_
          rintro v6 w6 ⟨rfl, rfl⟩
          cases hdl : okF m.date 0 1073741824 with
          | false =>
            have hf := hfail (by rw [hdl]; simp)
            simp -dsimp [go_sem, hf]
            exact k0.nw hKa
          | true =>
            by_cases g5 : 1200 < m.body.length
            · have g5' : (1200 : Int) < (m.body.length : Int) := by omega
              have hf := hfail (by simp; omega)
              simp -dsimp [go_sem, y3, g5, g5', hf]
              exact k0.nw hKa
            · have g5' : ¬ (1200 : Int) < (m.body.length : Int) := by omega
              simp -dsimp [go_sem, y0, y3, g5, g5', f9, hi1]
              refine ⟨⟨i1, rfl, by omega, ?_, by rw [hlast], hKa⟩, by simp [intOf]; omega⟩
              rw [hnext, hfl, hdl]; simp; omega
  · have hii : b.L.take i = b.L := List.take_of_length_le (by omega)
    rw [hii] at hok
    simp -dsimp [go_sem, f9, hlt, c0]
    refine call (bname_spec b.name _ hn) ?_
    rintro v5 w5 ⟨rfl, hk5⟩
    have c15 := hk5.cell_some c1 fun h => h
    have c25 := hk5.cell_some c2 fun h => h
    have c35 := hk5.cell_some c3 fun h => h
    have k5 := (k0.nw hK).nw hk5
    cases hnm : nameOk b.name with
    | false =>
      simp -dsimp [go_sem, isB, hnm]
      exact k5
    | true =>
      simp -dsimp [go_sem, c15]
      refine call (bin_spec b.val 1 1048576 _) ?_
      rintro v6 w6 ⟨rfl, rfl⟩
      cases hvl : okF b.val 1 1048576 with
      | false =>
        simp -dsimp [go_sem, isB, hvl]
        exact k5
      | true =>
        simp -dsimp [go_sem, c25]
        refine call (bin_spec b.next 1 1048576 _) ?_
        rintro v7 w7 ⟨rfl, rfl⟩
        cases hnx : okF b.next 1 1048576 with
        | false =>
          simp -dsimp [go_sem, isB, hnx]
          exact k5
        | true =>
          by_cases h24 : b.L.length ≤ 24
          · have h24' : (b.L.length : Int) ≤ 24 := by omega
            simp -dsimp [go_sem, c35, isB, hnm, hvl, hnx, hok, h24, h24']
            exact k5
          · have h24' : ¬ (b.L.length : Int) ≤ 24 := by omega
            simp -dsimp [go_sem, c35, isB, hnm, hvl, hnx, hok, h24, h24']
            exact k5
end Go.Proofs.YtipdndmfngpbfaaGreatDoor

namespace Go.Proofs.YtipdndmfngpbfaaGreatDoor
set_option linter.unusedSimpArgs false
set_option linter.unusedVariables false
set_option maxRecDepth 100000
set_option maxHeartbeats 2000000
open Go.Vc Go.RowKit

theorem conv_bytes2 {P : Program} {src dst e : TypeId} (hs : P.underlying src = some .string) (hd : P.underlying dst = some (.slice e)) (he : P.underlying e = some (.int .u8)) (s : ByteArray) (w : World) :
    ∃ c w', (convert src dst (.string s)).run P w = .ok (.slice (some ⟨w.heap.size, 0, none⟩) s.data.toList.length c) w' ∧ s.data.toList.length ≤ c ∧ Nw w w' ∧ Rd w' (some ⟨w.heap.size, 0, none⟩) (s.data.toList.map u8) ∧ w.heap.size < w'.heap.size := by
  refine ⟨_, _, run_bytes_of_string w src dst e s hs hd he, ?_, ((Kp.refl _ w).drew).alloc _, fun j u hj => ⟨_, _, rfl, ?_⟩, by simp⟩
  · have : s.data.toList.length = s.size := by rw [Array.length_toList]; rfl
    rw [this]
    exact grownCap_ge _ _ _ _
  have hl : j < s.data.toList.length := by simpa using (List.getElem?_eq_some_iff.1 hj).1
  rw [List.getElem?_map, List.getElem?_eq_getElem hl] at hj
  simp only [Option.map_some, Option.some.injEq] at hj
  subst hj
  have hl' : j < s.data.size := by simpa using hl
  have hl2 : j < s.size := hl'
  simp [World.cell?, World.alloc, World.drew, -World.alloc_eq, -World.drew_eq, bytesRow, Array.getElem?_append, hl', hl2, u8]
theorem brs_one {w : World} {g : Nat} {B : Option Addr} {d : Nat} {p : List UInt8} {S : Nat → Prop} {t : TypeId} (h : Blk w g t #[.slice B p.length d]) (hg : ¬ S g) (hr : Rd w B (p.map u8)) (hB : Ofl B (p.map u8) S) (hd : p.length ≤ d) : Brs w (some ⟨g, 0, none⟩) [p] S :=
  (RV.one hr hB hd).brs (Rd.of_heap h) fun a ha _ => by cases ha; exact hg
theorem bencode_spec (v : Value) (b : Bx) (w : World) (h : RB w v b (fun _ => False)) (hn : b.name.size ≤ 9223372036854775807) (hll : b.L.length ≤ 9223372036854775807) :
    Cal Tryz.prog 169 #[v] w fun v' w' => EncR v' w' b w.heap.size ∧ Nw w w' := by
  have hRB := h
  obtain ⟨A, c, q, rfl, hq, hc, hr, ho, hb⟩ := h
  have hql : q.length = b.L.length := by rw [← hq, List.length_map]
  refine enter Tryz.mixed Tryz.func169 rfl (by kernel_rfl) ?_
  have k0 : Nw w (w.alloc (.cells #[.string b.name, i64 b.val, i64 b.next, .slice A b.L.length c] 52)) := (Kp.refl _ _).alloc _
  have hb0 : Blk (w.alloc (.cells #[.string b.name, i64 b.val, i64 b.next, .slice A b.L.length c] 52)) w.heap.size 52 #[.string b.name, i64 b.val, i64 b.next, .slice A b.L.length c] := Blk.new _ _ _
  obtain ⟨x, hx⟩ : ∃ x, x = w.heap.size := ⟨_, rfl⟩
  simp -dsimp [go_sem]
  rw [← hx] at hb0 ⊢
  generalize w.alloc (.cells #[.string b.name, i64 b.val, i64 b.next, .slice A b.L.length c] 52) = wa at *
  refine call (bis_spec _ b (fun _ => False) wa (hRB.nw k0) hn hll) ?_
  rintro v w1 ⟨rfl, hk1⟩
  cases hib : isB b with
  | false =>
    simp -dsimp [go_sem]
    exact ⟨.inr ⟨hib, rfl⟩, k0.nw hk1⟩
  | true =>
    have hI := IsB.of hib
    have k1 := k0.nw hk1
    have hb1 := hb0.nw hk1
    have hxl := hb1.lt
    obtain ⟨hnsz, hns1⟩ : b.name.size ≤ 12 ∧ 1 ≤ b.name.size := by
      have : nameOk b.name = true := by
        simp only [isB, Bool.and_eq_true] at hib
        exact hib.1.1.2
      unfold nameOk at this
      simp only [Bool.and_eq_true, decide_eq_true_eq] at this
      exact ⟨this.2, this.1.2⟩
    have kb : Nw w1 (w1.alloc (.cells #[.slice none 0 0] 85)) := (Kp.refl _ _).alloc _
    have hg0 := Blk.new w1 85 #[.slice none 0 0]
    obtain ⟨g, hg⟩ : ∃ g, g = w1.heap.size := ⟨_, rfl⟩
    have hxg : x < g := by omega
    have hbb := hb1.nw kb
    have x0 := hbb.cell 0
    have kwb := k1.nw kb
    simp -dsimp [go_sem]
    rw [← hg] at hg0 ⊢
    generalize w1.alloc (.cells #[.slice none 0 0] 85) = wb at *
    obtain ⟨c2, w2, hcv, hcl, hk2, hr2, hlt2⟩ := conv_bytes2 (P := Tryz.prog) (src := 9) (dst := 23) (e := 5) (by kernel_rfl) (by kernel_rfl) (by kernel_rfl) b.name wb
    have hcv : convR Tryz.prog 9 23 (.string b.name) wb = _ := hcv
    obtain ⟨nl, hnl⟩ : ∃ nl, nl = b.name.data.toList := ⟨_, rfl⟩
    have hnll : nl.length ≤ 12 := by rw [hnl, Array.length_toList]; exact hnsz
    rw [← hnl] at hcv hcl hr2
    simp -dsimp [go_sem, x0, hcv]
    have kc : Nw w2 (w2.alloc (.cells #[.slice (some ⟨wb.heap.size, 0, none⟩) nl.length c2] 23)) := (Kp.refl _ _).alloc _
    have hgs : g < wb.heap.size := hg0.lt
    have hW0 : Wr (w2.alloc (.cells #[.slice (some ⟨wb.heap.size, 0, none⟩) nl.length c2] 23)) g [] (At g) :=
      ⟨none, 0, (hg0.nw hk2).nw kc, Ow.nil _ _ _, (fun a ha => by cases ha), (fun k hk => hk.elim id fun h => h.elim), fun k (e : k = g) => by have := (hk2.nw kc).size; omega⟩
    have hbr : Brs (w2.alloc (.cells #[.slice (some ⟨wb.heap.size, 0, none⟩) nl.length c2] 23)) (some ⟨w2.heap.size, 0, none⟩) [nl] (At g) :=
      brs_one (Blk.new w2 _ _) (fun (e : w2.heap.size = g) => by have := hk2.size; omega) (hr2.nw kc) (fun a ha _ (e : a.block = g) => by cases ha; simp at e; omega) hcl
    refine call (wBytes_spec g [] [nl] (At g) _ 1 _ hW0 hbr (by simp [load]; omega)) ?_
    rintro v w3 ⟨rfl, F3, hW3, hG3, hK3⟩
    rw [show [] ++ rowsB [nl] = rowB nl by simp [rowsB]] at hW3
    have hbx3 := ((hbb.nw hk2).nw kc).kp hK3 fun (e : x = g) => by omega
    have k3 : Nw w w3 := ((kwb.nw hk2).nw kc).at_ hK3 fun k (e : k = g) => by have := k0.size; omega
    have hwg : w.heap.size ≤ g := by omega
    have nF3 : Nf w F3 := fun k hk => (hG3 k hk).elim (fun (e : k = g) => by omega) fun e => by have := ((kwb.nw hk2).nw kc).size; omega
    have hF3x : ∀ k, F3 k → x < k := fun k hk => (hG3 k hk).elim (fun (e : k = g) => by omega) fun e => by have := (hk2.nw kc).size; omega
    have nG3 : Nf w1 F3 := fun k hk => (hG3 k hk).elim (fun (e : k = g) => by omega) fun e => by have := (hk2.nw kc).size; omega
    have kw13 : w1.heap.size ≤ w3.heap.size := by have := (hk2.nw kc).size; have := hK3.size; omega
    have hrnl := rowB_lenq (l := nl) (by omega)
    have x1 := hbx3.cell 1
    have x2 := hbx3.cell 2
    have x3 := hbx3.cell 3
    simp -dsimp [go_sem, x1, x2, x3]
    have kd : Nw w3 (w3.alloc (.cells #[i64 b.val, i64 b.next, i64 b.L.length] 3)) := (Kp.refl _ _).alloc _
    refine call (wNums_spec g (rowB nl) [b.val, b.next, (b.L.length : Int)] F3 (some ⟨w3.heap.size, 0, none⟩) 3 _ (hW3.kp_ kd fun _ _ h => h) (Rd.fresh rfl rfl) (fun a ha _ hf => by cases ha; have := hW3.lt_ _ hf; simp at this) (by simp; omega)) ?_
    rintro v w4 ⟨rfl, F4, hW4, hG4, hK4⟩
    obtain ⟨pre, hpre⟩ : ∃ pre, pre = rowB nl ++ numsB [b.val, b.next, (b.L.length : Int)] := ⟨_, rfl⟩
    have hprel : pre.length ≤ 60 := by
      rw [hpre, List.length_append]
      have := numsB_len [b.val, b.next, (b.L.length : Int)]
      simp only [List.length_cons, List.length_nil] at this
      omega
    rw [← hpre] at hW4
    have k4 : Nw w w4 := (k3.nw kd).at_ hK4 fun k hk => nF3 k hk
    have nF4 : Nf w F4 := Nf.gr nF3 hG4 (k3.nw kd).size
    have nG4 : Nf w1 F4 := Nf.gr nG3 hG4 (Nat.le_trans kw13 kd.size)
    have hF4x : ∀ k, F4 k → x < k := fun k hk => by have := nG4 k hk; omega
    have hbx4 := (hbx3.nw kd).kp hK4 fun e => Nat.lt_irrefl _ (hF3x x e)
    have x34 := hbx4.cell 3
    have hms : ∀ m ∈ b.L, m.body.length ≤ 1200 := fun m hm => (hI.all m hm).2.2.2.2
    have hl24 := hI.len
    obtain ⟨N, hN⟩ : ∃ N, N = b.L.length := ⟨_, rfl⟩
    rw [← hN] at x34 hl24
    simp -dsimp [go_sem, x34]
    refine loop [6, 27, 28, 29, 30, 31, 32, 33, 34, 35, 36, 37, 38, 39, 40, 41, 42, 43] (by kernel_rfl)
      (fun f w' => Box1 (fun a w' => ∃ (i : Nat) (F : Nat → Prop), a = i64 i ∧ i ≤ N ∧ Wr w' g (pre ++ (b.L.take i).flatMap encM) F ∧ Nf w F ∧ Nw w w') (f 27) w') (fun f _ => N - (intOf (f 27)).toNat)
      ⟨0, F4, rfl, Nat.zero_le _, by simpa using hW4, nF4, k4⟩ ?_
    rintro f w5 ⟨i, F, f27, hi, hW, nF, k5⟩
    by_cases hlt : i < N
    · have hltL : i < b.L.length := by omega
      have hi1 : IntKind.i64.wrap ((i : Int) + 1) = ((i + 1 : Nat) : Int) := by rw [w64 (by omega) (by omega)]; omega
      obtain ⟨i1, hi1'⟩ : ∃ i1, i1 = i + 1 := ⟨_, rfl⟩
      have htk : (b.L.take i1).flatMap encM = (b.L.take i).flatMap encM ++ encM b.L[i] := by rw [hi1', List.take_succ_eq_append_getElem hltL, List.flatMap_append]; simp
      rw [← hi1'] at hi1
      have hltq : i < q.length := by omega
      obtain ⟨ga, o, rfl, e0, e1, e2, e3⟩ := msg_at (hr.nw k5) hltq
      have hqi : q[i].1 = b.L[i] := by simp only [← hq, List.getElem_map]
      have hbq := hb _ (List.getElem_mem hltq)
      rw [hqi] at e0 e1 e2 hbq
      have hmb := hms _ (List.getElem_mem hltL)
      have htl : ((b.L.take i).flatMap encM).length ≤ 1236 * 24 := by
        have := encMs_len (b.L.take i) fun m hm => hms m (List.mem_of_mem_take hm)
        have h2 : (b.L.take i).length ≤ 24 := by rw [List.length_take]; omega
        have h3 := Nat.mul_le_mul_left 1236 h2
        omega
      generalize (b.L.take i).flatMap encM = cur at *
      generalize b.L[i] = m at *
      generalize q[i].2 = mv at *
      obtain ⟨Bm, dm, rfl, hrm, hom, hdm⟩ := hbq
      have ka : Nw w5 (w5.alloc (.cells #[i64 m.uid, i64 m.flags, i64 m.date, .slice Bm m.body.length dm] 58)) := (Kp.refl _ _).alloc _
      have hy0 := Blk.new w5 58 #[i64 m.uid, i64 m.flags, i64 m.date, .slice Bm m.body.length dm]
      obtain ⟨y, hy⟩ : ∃ y, y = w5.heap.size := ⟨_, rfl⟩
      have hFy : ∀ k, F k → k < y := fun k hk => by have := hW.lt_ k hk; omega
      have hWa := hW.kp_ ka fun _ _ h => h
      have ka5 := k5.nw ka
      have hys6 : (w5.alloc (.cells #[i64 m.uid, i64 m.flags, i64 m.date, .slice Bm m.body.length dm] 58)).heap.size = y + 1 := by simp [hy]
      simp -dsimp [go_sem, f27, hlt, e0, e1, e2, e3]
      rw [← hy] at hy0 ⊢
      generalize w5.alloc (.cells #[i64 m.uid, i64 m.flags, i64 m.date, .slice Bm m.body.length dm] 58) = w6 at *
      have hys := hy0.lt
      have y0 := hy0.cell 0
      have y1 := hy0.cell 1
      have y2 := hy0.cell 2
      have kn : Nw w6 (w6.alloc (.cells #[i64 m.uid, i64 m.flags, i64 m.date] 3)) := (Kp.refl _ _).alloc _
      refine call (wNums_spec g (pre ++ cur) [m.uid, m.flags, m.date] F (some ⟨y + 1, 0, none⟩) 3 _ (hWa.kp_ kn fun _ _ h => h) (Rd.fresh hys6.symm rfl) (fun a ha _ hf => by cases ha; have := hWa.lt_ _ hf; simp at this; omega) (by rw [List.length_append]; simp; omega)) ?_
      rintro v w7 ⟨rfl, F7, hW7, hG7, hK7⟩
      have hy7 := (hy0.nw kn).kp hK7 fun e => Nat.lt_irrefl _ (hFy y e)
      have y3 := hy7.cell 3
      have k7 : Nw w w7 := (ka5.nw kn).at_ hK7 fun k hk => nF k hk
      have nF7 : Nf w F7 := Nf.gr nF hG7 (ka5.nw kn).size
      simp -dsimp [go_sem, y3]
      have kr : Nw w7 (w7.alloc (.cells #[.slice Bm m.body.length dm] 23)) := (Kp.refl _ _).alloc _
      have hnum := numsB_len [m.uid, m.flags, m.date]
      simp only [List.length_cons, List.length_nil] at hnum
      refine call (wBytes_spec g _ [m.body] F7 (some ⟨w7.heap.size, 0, none⟩) 1 _ (hW7.kp_ kr fun _ _ h => h) (brs_one (Blk.new w7 _ _) (fun e => by have := hW7.lt_ _ e; omega) ((hrm.nw k7).nw kr) (hrm.ofl fun i hi => nF7 i hi) hdm) (by rw [List.length_append, List.length_append]; simp [load]; omega)) ?_
      rintro v w8 ⟨rfl, F8, hW8, hG8, hK8⟩
      have k8 : Nw w w8 := (k7.nw kr).at_ hK8 fun k hk => nF7 k hk
      have nF8 : Nf w F8 := Nf.gr nF7 hG8 (k7.nw kr).size
      have he : pre ++ cur ++ numsB [m.uid, m.flags, m.date] ++ rowsB [m.body] = pre ++ (cur ++ encM m) := by simp [rowsB, encM]
      rw [he, ← htk] at hW8
      simp -dsimp [go_sem, f27, hi1]
      exact ⟨⟨i1, F8, rfl, by omega, hW8, nF8, k8⟩, by simp [intOf]; omega⟩
    · obtain rfl : i = N := by omega
      rw [hN, List.take_length] at hW
      have hex : encX b = pre ++ b.L.flatMap encM := by rw [hpre, hnl]; rfl
      have htl := encMs_len b.L hms
      rw [← hex] at hW
      have hexl : (encX b).length ≤ 140737488355328 := by rw [hex, List.length_append]; omega
      simp -dsimp [go_sem, f27, hlt]
      refine call (wOut_spec g (encX b) F w5 hW hexl) ?_
      rintro v w6 ⟨hB6, hk6⟩
      simp -dsimp [go_sem]
      exact ⟨.inl ⟨hib, _, rfl, hB6.mono (by have := k5.size; omega)⟩, k5.nw hk6⟩
end Go.Proofs.YtipdndmfngpbfaaGreatDoor

namespace Go.Proofs.YtipdndmfngpbfaaGreatDoor
set_option linter.unusedSimpArgs false
set_option linter.unusedVariables false
set_option maxRecDepth 100000
set_option maxHeartbeats 1000000
open Go.Vc Go.RowKit

end Go.Proofs.YtipdndmfngpbfaaGreatDoor

namespace Go.Proofs.YtipdndmfngpbfaaGreatDoor
set_option linter.unusedSimpArgs false
set_option linter.unusedVariables false
set_option maxRecDepth 100000
set_option maxHeartbeats 2000000
open Go.Vc Go.RowKit

end Go.Proofs.YtipdndmfngpbfaaGreatDoor

namespace Go.Proofs.YtipdndmfngpbfaaGreatDoor
set_option linter.unusedSimpArgs false
set_option linter.unusedVariables false
set_option maxRecDepth 100000
open Go.Vc Go.RowKit

end Go.Proofs.YtipdndmfngpbfaaGreatDoor

namespace Go.Proofs.YtipdndmfngpbfaaGreatDoor
set_option linter.unusedSimpArgs false
set_option linter.unusedVariables false
set_option maxRecDepth 100000
set_option maxHeartbeats 2000000
open Go.Vc Go.RowKit

end Go.Proofs.YtipdndmfngpbfaaGreatDoor

namespace Go.Proofs.YtipdndmfngpbfaaGreatDoor
set_option linter.unusedSimpArgs false
set_option linter.unusedVariables false
set_option maxRecDepth 100000
set_option maxHeartbeats 1000000
open Go.Vc Go.RowKit

/-- A change. -/
structure Chg where
  kind : Int
  user : Nm
  pass : Nm
  box : Nm
  to : Nm
  uids : List Int
  mode : Int
  flags : Int
  date : Int
  body : List UInt8
def Chg.zero : Chg := ⟨0, [], [], [], [], [], 0, 0, 0, []⟩
def nmOk (s : Nm) : Bool := nameOk ⟨s.toArray⟩
def passB (b : UInt8) : Bool := decide (33 ≤ b.toNat) && decide (b.toNat ≤ 126)
def passOk (s : Nm) : Bool := decide (1 ≤ s.length) && (decide (s.length ≤ 12) && s.all passB)
def stepU (l : List Int) (i : Nat) : Bool := okF (l.getD i 0) 1 1048576 && (decide (i = 0) || decide (l.getD (i - 1) 0 < l.getD i 0))
def riseU (l : List Int) : Nat → Bool
  | 0 => true
  | i + 1 => riseU l i && stepU l i
def uidsOk (l : List Int) : Bool := riseU l l.length && decide (l.length ≤ 24)
def manyK (k : Int) : Bool := decide (k = 6) || (decide (k = 7) || decide (k = 8))
def toK (k : Int) : Bool := decide (k = 4) || decide (k = 8)
/-- Has a change nothing but what its kind names? -/
def namedOk (c : Chg) : Bool := (if c.kind = 1 then decide (c.box = []) else decide (c.pass = [])) && ((toK c.kind || decide (c.to = [])) && ((manyK c.kind || decide (c.uids = [])) && ((decide (c.kind = 6) || decide (c.mode = 0)) &&
  ((decide (c.kind = 5) || (decide (c.kind = 6) || decide (c.flags = 0))) && ((decide (c.kind = 5) || decide (c.date = 0)) && (decide (c.kind = 5) || decide (c.body = [])))))))
/-- May a change be? -/
def chgOk (c : Chg) : Bool := okF c.kind 1 8 && (nmOk c.user && ((if c.kind = 1 then passOk c.pass else nmOk c.box) && ((!toK c.kind || nmOk c.to) && (namedOk c &&
  (uidsOk c.uids && (okF c.mode 0 2 && (okF c.flags 0 31 && (okF c.date 0 1073741824 && decide (c.body.length ≤ 1200)))))))))
/-- A change's bytes. -/
def encC (c : Chg) : List UInt8 := numsB [c.kind] ++ rowsB [c.user, c.pass, c.box, c.to] ++ numsB [(c.uids.length : Int)] ++ numsB c.uids ++ numsB [c.mode, c.flags, c.date] ++ rowsB [c.body]
/-- A user: the pass, and boxes by names. A state: the next validity, and users by names. -/
structure Usr where
  pass : Nm
  bx : List (Nm × Bx)
structure Stt where
  next : Int
  us : List (Nm × Usr)
def inboxN : Nm := [105, 110, 98, 111, 120]
def mailN : Nm := [109, 97, 105, 108]
def newB (s : Nm) (v : Int) : Bx := ⟨⟨s.toArray⟩, v, 1, []⟩
def Stt.zero : Stt := ⟨1, []⟩
/-- A user's boxes turned. -/
def Stt.turn (T : Stt) (s : Nm) (u : Usr) (l : List (Nm × Bx)) : Stt := { T with us := tLay T.us s { u with bx := l } }
/-- Messages that are in another box, too. -/
def copyL (uids : List Int) : List Msg → Bx → Nat → Int × Nat × Bx
  | [], b, n => (0, n, b)
  | m :: L, b, n => if m.uid ∈ uids then (if (addB b m.flags m.date m.body).2.2 ≠ 0 then ((addB b m.flags m.date m.body).2.2, 0, b) else copyL uids L (addB b m.flags m.date m.body).1 (n + 1)) else copyL uids L b n
def plAdd (T : Stt) (c : Chg) : Int × Int × Stt :=
  if (tLook T.us c.user).isSome then (8, 0, T) else if 4 ≤ T.us.length then (6, 0, T) else if 1048576 ≤ T.next then (10, 0, T)
  else (0, 0, ⟨T.next + 1, tLay T.us c.user ⟨c.pass, [(inboxN, newB inboxN T.next)]⟩⟩)
def plCreate (T : Stt) (c : Chg) (u : Usr) : Int × Int × Stt :=
  if (tLook u.bx c.box).isSome then (8, 0, T) else if 4 ≤ u.bx.length then (6, 0, T) else if 1048576 ≤ T.next then (10, 0, T)
  else (0, 0, { T.turn c.user u (tLay u.bx c.box (newB c.box T.next)) with next := T.next + 1 })
def plRename (T : Stt) (c : Chg) (u : Usr) (b : Bx) : Int × Int × Stt :=
  if c.box = inboxN then (11, 0, T) else if (tLook u.bx c.to).isSome then (8, 0, T)
  else (0, 0, T.turn c.user u (tLay (tGone u.bx c.box) c.to { b with name := ⟨c.to.toArray⟩ }))
def plKeep (T : Stt) (s : Nm) (u : Usr) (t : Nm) (b : Bx) (n e : Int) : Int × Int × Stt := if e ≠ 0 then (e, 0, T) else (0, n, T.turn s u (tLay u.bx t b))
def plCopy (T : Stt) (c : Chg) (u : Usr) (b : Bx) : Int × Int × Stt :=
  match tLook u.bx c.to with
  | none => (7, 0, T)
  | some d => plKeep T c.user u c.to (copyL c.uids b.L d 0).2.2 (copyL c.uids b.L d 0).2.1 (copyL c.uids b.L d 0).1
def plBox (T : Stt) (c : Chg) (u : Usr) (b : Bx) : Int × Int × Stt :=
  if c.kind = 3 then (if c.box = inboxN then (11, 0, T) else (0, 0, T.turn c.user u (tGone u.bx c.box)))
  else if c.kind = 4 then plRename T c u b
  else if c.kind = 5 then plKeep T c.user u c.box (addB b c.flags c.date c.body).1 (addB b c.flags c.date c.body).2.1 (addB b c.flags c.date c.body).2.2
  else if c.kind = 6 then plKeep T c.user u c.box { b with L := b.L.map (mk1 c.uids c.mode c.flags) } (markN c.uids c.mode c.flags b.L) 0
  else if c.kind = 7 then plKeep T c.user u c.box { b with L := stayB c.uids b.L } (goneB c.uids b.L).length 0
  else plCopy T c u b
/-- What a change that may be would do: the error, what it tells, the state behind it. -/
def plan (T : Stt) (c : Chg) : Int × Int × Stt :=
  if c.kind = 1 then plAdd T c else
  match tLook T.us c.user with
  | none => (7, 0, T)
  | some u => if c.kind = 2 then plCreate T c u else match tLook u.bx c.box with
    | none => (7, 0, T)
    | some b => plBox T c u b
/-- A state's bytes. -/
def imgU (x : Nm × Usr) : List UInt8 := rowsB [x.1, x.2.pass] ++ numsB [(x.2.bx.length : Int)] ++ x.2.bx.flatMap fun y => rowB (encX y.2)
def imgS (T : Stt) : List UInt8 := numsB [T.next, (T.us.length : Int)] ++ T.us.flatMap imgU

theorem riseU_all {l : List Int} : ∀ {i : Nat}, riseU l i = true → ∀ j < i, stepU l j = true
  | 0, _, j, hj => by omega
  | i + 1, h, j, hj => by
    simp only [riseU, Bool.and_eq_true] at h
    by_cases hji : j < i
    · exact riseU_all h.1 j hji
    · obtain rfl : j = i := by omega
      exact h.2
theorem uidsOk_all {l : List Int} (h : uidsOk l = true) : (∀ n ∈ l, 1 ≤ n ∧ n ≤ 1048576) ∧ l.length ≤ 24 := by
  simp only [uidsOk, Bool.and_eq_true, decide_eq_true_eq] at h
  refine ⟨fun n hn => ?_, h.2⟩
  obtain ⟨j, hj, rfl⟩ := List.getElem_of_mem hn
  have := riseU_all h.1 j hj
  simp only [stepU, Bool.and_eq_true, okF, decide_eq_true_eq, List.getD_eq_getElem?_getD, List.getElem?_eq_getElem hj, Option.getD_some] at this
  exact this.1
theorem nmOk_len {s : Nm} (h : nmOk s = true) : 1 ≤ s.length ∧ s.length ≤ 12 := by
  simp only [nmOk, nameOk, Bool.and_eq_true, decide_eq_true_eq] at h
  have e : (⟨s.toArray⟩ : ByteArray).size = s.length := by simp [ByteArray.size]
  omega
theorem passOk_len {s : Nm} (h : passOk s = true) : 1 ≤ s.length ∧ s.length ≤ 12 := by
  simp only [passOk, Bool.and_eq_true, decide_eq_true_eq] at h
  exact ⟨h.1, h.2.1⟩
/-- What a change that may be is like. -/
structure Chg.Ok (c : Chg) : Prop where
  kind : 1 ≤ c.kind ∧ c.kind ≤ 8
  user : c.user.length ≤ 12
  pass : c.pass.length ≤ 12
  box : c.box.length ≤ 12
  to : c.to.length ≤ 12
  uids : (∀ n ∈ c.uids, 1 ≤ n ∧ n ≤ 1048576) ∧ c.uids.length ≤ 24
  mode : 0 ≤ c.mode ∧ c.mode ≤ 2
  flags : 0 ≤ c.flags ∧ c.flags ≤ 31
  date : 0 ≤ c.date ∧ c.date ≤ 1073741824
  body : c.body.length ≤ 1200
theorem chgOk_ok {c : Chg} (h : chgOk c = true) : c.Ok := by
  simp only [chgOk, namedOk, Bool.and_eq_true, decide_eq_true_eq] at h
  obtain ⟨h1, h2, h3, h4, ⟨h5, h6, _⟩, h7, h8, h9, h10, h11⟩ := h
  simp only [okF, Bool.and_eq_true, decide_eq_true_eq] at h1 h8 h9 h10
  refine ⟨h1, (nmOk_len h2).2, ?_, ?_, ?_, uidsOk_all h7, h8, h9, h10, h11⟩
  · split at h3
    · exact (passOk_len h3).2
    · rename_i hk
      rw [if_neg hk] at h5
      rw [of_decide_eq_true h5]; simp
  · split at h3
    · rename_i hk
      rw [if_pos hk] at h5
      rw [of_decide_eq_true h5]; simp
    · exact (nmOk_len h3).2
  · cases ht : toK c.kind with
    | true =>
      rw [ht] at h4
      exact (nmOk_len (by simpa using h4)).2
    | false =>
      rw [ht] at h6
      have h6 : c.to = [] := by simpa using h6
      rw [h6]; simp
end Go.Proofs.YtipdndmfngpbfaaGreatDoor

namespace Go.Proofs.YtipdndmfngpbfaaGreatDoor
set_option linter.unusedSimpArgs false
set_option linter.unusedVariables false
set_option maxRecDepth 100000
set_option maxHeartbeats 1000000
open Go.Vc Go.RowKit

theorem applyF_ok {mode old flags : Int} (hm : 0 ≤ mode ∧ mode ≤ 2) (ho : 0 ≤ old ∧ old ≤ 31) (hf : 0 ≤ flags ∧ flags ≤ 31) : 0 ≤ applyF mode old flags ∧ applyF mode old flags ≤ 31 := by
  have h : ((List.range 3).all fun m => (List.range 32).all fun o => (List.range 32).all fun f => decide (0 ≤ applyF (m : Int) (o : Int) (f : Int)) && decide (applyF (m : Int) (o : Int) (f : Int) ≤ 31)) = true := by decide +kernel
  have h1 := List.all_eq_true.1 h mode.toNat (List.mem_range.2 (by omega))
  have h2 := List.all_eq_true.1 h1 old.toNat (List.mem_range.2 (by omega))
  have h3 := List.all_eq_true.1 h2 flags.toNat (List.mem_range.2 (by omega))
  rw [show ((mode.toNat : Nat) : Int) = mode by omega, show ((old.toNat : Nat) : Int) = old by omega, show ((flags.toNat : Nat) : Int) = flags by omega] at h3
  simpa using h3
theorem mk1_uid (uids : List Int) (mode flags : Int) (m : Msg) : (mk1 uids mode flags m).uid = m.uid ∧ (mk1 uids mode flags m).date = m.date ∧ (mk1 uids mode flags m).body = m.body := by
  unfold mk1
  split <;> exact ⟨rfl, rfl, rfl⟩
theorem IsB.mark {b : Bx} (h : IsB b) (uids : List Int) {mode flags : Int} (hm : 0 ≤ mode ∧ mode ≤ 2) (hf : 0 ≤ flags ∧ flags ≤ 31) : IsB { b with L := b.L.map (mk1 uids mode flags) } := by
  obtain ⟨h1, h2, h3, h4, h5⟩ := h
  refine ⟨by simpa using h1, fun m hm' => ?_, ?_, h4, h5⟩
  · obtain ⟨x, hx, rfl⟩ := List.mem_map.1 hm'
    obtain ⟨a, b, c, d, e⟩ := h2 x hx
    obtain ⟨e1, e2, e3⟩ := mk1_uid uids mode flags x
    rw [e1, e2, e3]
    refine ⟨a, b, ?_, d, e⟩
    unfold mk1
    split
    · simp only [okF, Bool.and_eq_true, decide_eq_true_eq] at c ⊢
      exact applyF_ok hm c hf
    · exact c
  · rw [List.pairwise_map]
    exact h3.imp fun {a b} hab => by rw [(mk1_uid uids mode flags a).1, (mk1_uid uids mode flags b).1]; exact hab
theorem isB_name {b : Bx} (h : isB b = true) : nameOk b.name = true := by
  simp only [isB, Bool.and_eq_true] at h
  exact h.1.1.2
structure Usr.Ok (u : Usr) : Prop where
  pass : passOk u.pass = true
  srt : Srt u.bx
  len : u.bx.length ≤ 4
  inb : (tLook u.bx inboxN).isSome = true
  bx : ∀ n b, tLook u.bx n = some b → b.name = ⟨n.toArray⟩ ∧ isB b = true
structure Stt.Ok (T : Stt) : Prop where
  srt : Srt T.us
  len : T.us.length ≤ 4
  next : 1 ≤ T.next ∧ T.next ≤ 1048576
  us : ∀ s u, tLook T.us s = some u → nmOk s = true ∧ u.Ok
theorem Stt.Ok.zero : Stt.zero.Ok := ⟨Srt.nil, by simp [Stt.zero], by simp [Stt.zero], fun s u h => by cases h⟩
/-- A user's boxes, one of them laid. -/
theorem Usr.Ok.lay {u : Usr} (h : u.Ok) {n : Nm} {b : Bx} (hn : b.name = ⟨n.toArray⟩) (hb : isB b = true) (hl : (tLook u.bx n).isSome = true ∨ u.bx.length < 4) : Usr.Ok { u with bx := tLay u.bx n b } := by
  refine ⟨h.pass, h.srt.tLay n b, ?_, ?_, fun m d hd => ?_⟩
  · have := h.len
    show (tLay u.bx n b).length ≤ 4
    rw [lay_len h.srt]
    split
    · omega
    · rename_i hx
      rcases hl with hl | hl
      · exact absurd hl hx
      · omega
  · show (tLook (tLay u.bx n b) inboxN).isSome = true
    rw [tLook_lay]
    split
    · rfl
    · exact h.inb
  · have hd : tLook (tLay u.bx n b) m = some d := hd
    rw [tLook_lay] at hd
    split at hd
    · rename_i e
      cases hd
      subst e
      exact ⟨hn, hb⟩
    · exact h.bx m d hd
theorem Usr.Ok.gone {u : Usr} (h : u.Ok) {n : Nm} (hn : n ≠ inboxN) : Usr.Ok { u with bx := tGone u.bx n } := by
  refine ⟨h.pass, h.srt.tGone n, ?_, ?_, fun m d hd => ?_⟩
  · have := h.len
    show (tGone u.bx n).length ≤ 4
    rw [Go.Vc.gone_len]
    split <;> omega
  · show (tLook (tGone u.bx n) inboxN).isSome = true
    rw [tLook_gone h.srt, if_neg (fun e => hn e.symm)]
    exact h.inb
  · have hd : tLook (tGone u.bx n) m = some d := hd
    rw [tLook_gone h.srt] at hd
    split at hd
    · cases hd
    · exact h.bx m d hd
theorem Stt.Ok.turn {T : Stt} (h : T.Ok) {s : Nm} {u : Usr} (hu : tLook T.us s = some u) {l : List (Nm × Bx)} (hl : Usr.Ok { u with bx := l }) : (T.turn s u l).Ok := by
  refine ⟨h.srt.tLay _ _, ?_, h.next, fun t v hv => ?_⟩
  · show (tLay T.us s _).length ≤ 4
    rw [lay_len h.srt, hu]
    exact h.len
  · have hv : tLook (tLay T.us s { u with bx := l }) t = some v := hv
    rw [tLook_lay] at hv
    split at hv
    · rename_i e
      cases hv
      subst e
      exact ⟨(h.us _ _ hu).1, hl⟩
    · exact h.us t v hv
theorem newB_ok {n : Nm} (hn : nmOk n = true) {v : Int} (hv : 1 ≤ v ∧ v ≤ 1048576) : isB (newB n v) = true := (IsB.new ⟨n.toArray⟩ v hv).is hn
theorem inbox_ok : nmOk inboxN = true := by decide +kernel
theorem copyL_ok (uids : List Int) : ∀ (L : List Msg) (b : Bx) (n : Nat), isB b = true → isB (copyL uids L b n).2.2 = true ∧ (copyL uids L b n).2.2.name = b.name
  | [], b, n, h => ⟨h, rfl⟩
  | m :: L, b, n, h => by
    unfold copyL
    split
    · split
      · exact ⟨h, rfl⟩
      · have h1 := addB_name b m.flags m.date m.body
        have h2 : isB (addB b m.flags m.date m.body).1 = true := ((IsB.of h).add _ _ _).is (by rw [h1.1]; exact isB_name h)
        have ih := copyL_ok uids L _ (n + 1) h2
        exact ⟨ih.1, ih.2.trans h1.1⟩
    · exact copyL_ok uids L b n h
/-- What a change does leaves a state that may be. -/
theorem plan_ok {T : Stt} (h : T.Ok) {c : Chg} (hc : chgOk c = true) : (plan T c).2.2.Ok := by
  have hx := chgOk_ok hc
  simp only [chgOk, Bool.and_eq_true] at hc
  obtain ⟨_, huser, hpb, hto, _⟩ := hc
  have hnx := h.next
  unfold plan
  split
  · rename_i hk
    rw [if_pos hk] at hpb
    unfold plAdd
    repeat' split
    · exact h
    · exact h
    · exact h
    · rename_i h1 h2 h3
      refine ⟨h.srt.tLay _ _, ?_, by simp only; omega, fun t v hv => ?_⟩
      · show (tLay T.us c.user _).length ≤ 4
        rw [lay_len h.srt, if_neg h1]; omega
      · have hv : tLook (tLay T.us c.user ⟨c.pass, [(inboxN, newB inboxN T.next)]⟩) t = some v := hv
        rw [tLook_lay] at hv
        split at hv
        · rename_i e
          cases hv
          subst e
          refine ⟨huser, hpb, List.pairwise_singleton _ _, by simp, by simp [tLook], fun n b hb => ?_⟩
          simp only [tLook] at hb
          split at hb
          · rename_i e
            cases hb
            subst e
            exact ⟨rfl, newB_ok inbox_ok hnx⟩
          · cases hb
        · exact h.us t v hv
  · rename_i hk
    rw [if_neg hk] at hpb
    split
    · exact h
    · rename_i u hu
      have hU := (h.us _ _ hu).2
      split
      · unfold plCreate
        repeat' split
        · exact h
        · exact h
        · exact h
        · rename_i h1 h2 h3
          have := h.turn hu (hU.lay (n := c.box) (b := newB c.box T.next) rfl (newB_ok hpb hnx) (.inr (by omega)))
          exact ⟨this.srt, this.len, by simp only; omega, this.us⟩
      · split
        · exact h
        · rename_i b hb
          have hB := hU.bx _ _ hb
          have hI := IsB.of hB.2
          have keep : ∀ (n : Nm) (b' : Bx) (k e : Int), (tLook u.bx n).isSome = true → b'.name = ⟨n.toArray⟩ → isB b' = true → (plKeep T c.user u n b' k e).2.2.Ok := fun n b' k e h1 h2 h3 => by
            unfold plKeep
            split
            · exact h
            · exact h.turn hu (hU.lay h2 h3 (.inl h1))
          unfold plBox
          split
          · split
            · exact h
            · rename_i hin
              exact h.turn hu (hU.gone hin)
          · split
            · rename_i hk4
              unfold plRename
              repeat' split
              · exact h
              · exact h
              · rename_i h1 h2
                have hto' : nmOk c.to = true := by
                  have : toK c.kind = true := by simp [toK, hk4]
                  rw [this] at hto
                  simpa using hto
                refine h.turn hu ((hU.gone h1).lay rfl (IsB.is (b := { b with name := ⟨c.to.toArray⟩ }) ?_ hto') (.inr ?_))
                · exact ⟨hI.1, hI.2, hI.3, hI.4, hI.5⟩
                · show (tGone u.bx c.box).length < 4
                  have := hU.len
                  have hp := List.length_pos_of_mem (tLook_some hb)
                  rw [Go.Vc.gone_len, hb]
                  simp; omega
            · split
              · have h1 := addB_name b c.flags c.date c.body
                exact keep _ _ _ _ (by rw [hb]; rfl) (h1.1.trans hB.1) ((hI.add _ _ _).is (by rw [h1.1]; exact isB_name hB.2))
              · split
                · exact keep _ _ _ _ (by rw [hb]; rfl) hB.1 ((hI.mark c.uids hx.mode hx.flags).is (show nameOk b.name = true from isB_name hB.2))
                · split
                  · exact keep _ _ _ _ (by rw [hb]; rfl) hB.1 ((hI.stay c.uids).is (show nameOk b.name = true from isB_name hB.2))
                  · unfold plCopy
                    split
                    · exact h
                    · rename_i d hd
                      have hD := hU.bx _ _ hd
                      have h1 := copyL_ok c.uids b.L d 0 hD.2
                      exact keep _ _ _ _ (by rw [hd]; rfl) (h1.2.trans hD.1) h1.1
end Go.Proofs.YtipdndmfngpbfaaGreatDoor

