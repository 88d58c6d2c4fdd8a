/-
  box.Encode walked. By the session itself.
-/
import Derived.Test.YtindfpaahlijeaaDoorBkB
import Derived.Test.YtindfpaahlijeaaDoorOctD
namespace Go.Proofs.YtindfpaahlijeaaDoor
set_option linter.unusedSimpArgs false
set_option linter.unusedVariables false
set_option maxRecDepth 100000
set_option maxHeartbeats 2000000
open Go.Vc Go.RowKit

theorem conv_bytes2 {P : Program} {src dst e : TypeId} (hs : P.underlying src = some .string) (hd : P.underlying dst = some (.slice e)) (he : P.underlying e = some (.int .u8)) (s : ByteArray) (w : World) :
    ∃ c w', (convert src dst (.string s)).run P w = .ok (.slice (some ⟨w.heap.size, 0, none⟩) s.data.toList.length c) w' ∧ s.data.toList.length ≤ c ∧ Nw w w' ∧ Rd w' (some ⟨w.heap.size, 0, none⟩) (s.data.toList.map u8) ∧ w.heap.size < w'.heap.size := by
  refine ⟨_, _, run_bytes_of_string w src dst e s hs hd he, ?_, ((Kp.refl _ w).drew).alloc _, fun j u hj => ⟨_, _, rfl, ?_⟩, by simp⟩
  · have : s.data.toList.length = s.size := by rw [Array.length_toList]; rfl
    rw [this]
    exact grownCap_ge _ _ _ _
  have hl : j < s.data.toList.length := by simpa using (List.getElem?_eq_some_iff.1 hj).1
  rw [List.getElem?_map, List.getElem?_eq_getElem hl] at hj
  simp only [Option.map_some, Option.some.injEq] at hj
  subst hj
  have hl' : j < s.data.size := by simpa using hl
  have hl2 : j < s.size := hl'
  simp [World.cell?, World.alloc, World.drew, -World.alloc_eq, -World.drew_eq, bytesRow, Array.getElem?_append, hl', hl2, u8]
theorem brs_one {w : World} {g : Nat} {B : Option Addr} {d : Nat} {p : List UInt8} {S : Nat → Prop} {t : TypeId} (h : Blk w g t #[.slice B p.length d]) (hg : ¬ S g) (hr : Rd w B (p.map u8)) (hB : Ofl B (p.map u8) S) (hd : p.length ≤ d) : Brs w (some ⟨g, 0, none⟩) [p] S :=
  (RV.one hr hB hd).brs (Rd.of_heap h) fun a ha _ => by cases ha; exact hg
theorem bencode_spec (v : Value) (b : Bx) (w : World) (h : RB w v b (fun _ => False)) (hn : b.name.size ≤ 9223372036854775807) (hll : b.L.length ≤ 9223372036854775807) :
    Cal Tryd.prog 7 #[v] w fun v' w' => EncR v' w' b w.heap.size ∧ Nw w w' := by
  have hRB := h
  obtain ⟨A, c, q, rfl, hq, hc, hr, ho, hb⟩ := h
  have hql : q.length = b.L.length := by rw [← hq, List.length_map]
  refine enter Tryd.mixed Tryd.func7 rfl (by kernel_rfl) ?_
  have k0 : Nw w (w.alloc (.cells #[.string b.name, i64 b.val, i64 b.next, .slice A b.L.length c] 24)) := (Kp.refl _ _).alloc _
  have hb0 : Blk (w.alloc (.cells #[.string b.name, i64 b.val, i64 b.next, .slice A b.L.length c] 24)) w.heap.size 24 #[.string b.name, i64 b.val, i64 b.next, .slice A b.L.length c] := Blk.new _ _ _
  obtain ⟨x, hx⟩ : ∃ x, x = w.heap.size := ⟨_, rfl⟩
  simp -dsimp [go_sem]
  rw [← hx] at hb0 ⊢
  generalize w.alloc (.cells #[.string b.name, i64 b.val, i64 b.next, .slice A b.L.length c] 24) = wa at *
  refine call (bis_spec _ b (fun _ => False) wa (hRB.nw k0) hn hll) ?_
  rintro v w1 ⟨rfl, hk1⟩
  cases hib : isB b with
  | false =>
    simp -dsimp [go_sem]
    exact ⟨.inr ⟨hib, rfl⟩, k0.nw hk1⟩
  | true =>
    have hI := IsB.of hib
    have k1 := k0.nw hk1
    have hb1 := hb0.nw hk1
    have hxl := hb1.lt
    obtain ⟨hnsz, hns1⟩ : b.name.size ≤ 12 ∧ 1 ≤ b.name.size := by
      have : nameOk b.name = true := by
        simp only [isB, Bool.and_eq_true] at hib
        exact hib.1.1.2
      unfold nameOk at this
      simp only [Bool.and_eq_true, decide_eq_true_eq] at this
      exact ⟨this.2, this.1.2⟩
    have kb : Nw w1 (w1.alloc (.cells #[.slice none 0 0] 44)) := (Kp.refl _ _).alloc _
    have hg0 := Blk.new w1 44 #[.slice none 0 0]
    obtain ⟨g, hg⟩ : ∃ g, g = w1.heap.size := ⟨_, rfl⟩
    have hxg : x < g := by omega
    have hbb := hb1.nw kb
    have x0 := hbb.cell 0
    have kwb := k1.nw kb
    simp -dsimp [go_sem]
    rw [← hg] at hg0 ⊢
    generalize w1.alloc (.cells #[.slice none 0 0] 44) = wb at *
    obtain ⟨c2, w2, hcv, hcl, hk2, hr2, hlt2⟩ := conv_bytes2 (P := Tryd.prog) (src := 9) (dst := 26) (e := 5) (by kernel_rfl) (by kernel_rfl) (by kernel_rfl) b.name wb
    have hcv : convR Tryd.prog 9 26 (.string b.name) wb = _ := hcv
    obtain ⟨nl, hnl⟩ : ∃ nl, nl = b.name.data.toList := ⟨_, rfl⟩
    have hnll : nl.length ≤ 12 := by rw [hnl, Array.length_toList]; exact hnsz
    rw [← hnl] at hcv hcl hr2
    simp -dsimp [go_sem, x0, hcv]
    have kc : Nw w2 (w2.alloc (.cells #[.slice (some ⟨wb.heap.size, 0, none⟩) nl.length c2] 26)) := (Kp.refl _ _).alloc _
    have hgs : g < wb.heap.size := hg0.lt
    have hW0 : Wr (w2.alloc (.cells #[.slice (some ⟨wb.heap.size, 0, none⟩) nl.length c2] 26)) g [] (At g) :=
      ⟨none, 0, (hg0.nw hk2).nw kc, Ow.nil _ _ _, (fun a ha => by cases ha), (fun k hk => hk.elim id fun h => h.elim), fun k (e : k = g) => by have := (hk2.nw kc).size; omega⟩
    have hbr : Brs (w2.alloc (.cells #[.slice (some ⟨wb.heap.size, 0, none⟩) nl.length c2] 26)) (some ⟨w2.heap.size, 0, none⟩) [nl] (At g) :=
      brs_one (Blk.new w2 _ _) (fun (e : w2.heap.size = g) => by have := hk2.size; omega) (hr2.nw kc) (fun a ha _ (e : a.block = g) => by cases ha; simp at e; omega) hcl
    refine call (wBytes_spec g [] [nl] (At g) _ 1 _ hW0 hbr (by simp [load]; omega)) ?_
    rintro v w3 ⟨rfl, F3, hW3, hG3, hK3⟩
    rw [show [] ++ rowsB [nl] = rowB nl by simp [rowsB]] at hW3
    have hbx3 := ((hbb.nw hk2).nw kc).kp hK3 fun (e : x = g) => by omega
    have k3 : Nw w w3 := ((kwb.nw hk2).nw kc).at_ hK3 fun k (e : k = g) => by have := k0.size; omega
    have hwg : w.heap.size ≤ g := by omega
    have nF3 : Nf w F3 := fun k hk => (hG3 k hk).elim (fun (e : k = g) => by omega) fun e => by have := ((kwb.nw hk2).nw kc).size; omega
    have hF3x : ∀ k, F3 k → x < k := fun k hk => (hG3 k hk).elim (fun (e : k = g) => by omega) fun e => by have := (hk2.nw kc).size; omega
    have nG3 : Nf w1 F3 := fun k hk => (hG3 k hk).elim (fun (e : k = g) => by omega) fun e => by have := (hk2.nw kc).size; omega
    have kw13 : w1.heap.size ≤ w3.heap.size := by have := (hk2.nw kc).size; have := hK3.size; omega
    have hrnl := rowB_lenq (l := nl) (by omega)
    have x1 := hbx3.cell 1
    have x2 := hbx3.cell 2
    have x3 := hbx3.cell 3
    simp -dsimp [go_sem, x1, x2, x3]
    have kd : Nw w3 (w3.alloc (.cells #[i64 b.val, i64 b.next, i64 b.L.length] 3)) := (Kp.refl _ _).alloc _
    refine call (wNums_spec g (rowB nl) [b.val, b.next, (b.L.length : Int)] F3 (some ⟨w3.heap.size, 0, none⟩) 3 _ (hW3.kp_ kd fun _ _ h => h) (Rd.fresh rfl rfl) (fun a ha _ hf => by cases ha; have := hW3.lt_ _ hf; simp at this) (by simp; omega)) ?_
    rintro v w4 ⟨rfl, F4, hW4, hG4, hK4⟩
    obtain ⟨pre, hpre⟩ : ∃ pre, pre = rowB nl ++ numsB [b.val, b.next, (b.L.length : Int)] := ⟨_, rfl⟩
    have hprel : pre.length ≤ 60 := by
      rw [hpre, List.length_append]
      have := numsB_len [b.val, b.next, (b.L.length : Int)]
      simp only [List.length_cons, List.length_nil] at this
      omega
    rw [← hpre] at hW4
    have k4 : Nw w w4 := (k3.nw kd).at_ hK4 fun k hk => nF3 k hk
    have nF4 : Nf w F4 := Nf.gr nF3 hG4 (k3.nw kd).size
    have nG4 : Nf w1 F4 := Nf.gr nG3 hG4 (Nat.le_trans kw13 kd.size)
    have hF4x : ∀ k, F4 k → x < k := fun k hk => by have := nG4 k hk; omega
    have hbx4 := (hbx3.nw kd).kp hK4 fun e => Nat.lt_irrefl _ (hF3x x e)
    have x34 := hbx4.cell 3
    have hms : ∀ m ∈ b.L, m.body.length ≤ 1200 := fun m hm => (hI.all m hm).2.2.2.2
    have hl24 := hI.len
    obtain ⟨N, hN⟩ : ∃ N, N = b.L.length := ⟨_, rfl⟩
    rw [← hN] at x34 hl24
    simp -dsimp [go_sem, x34]
    refine loop [6, 27, 28, 29, 30, 31, 32, 33, 34, 35, 36, 37, 38, 39, 40, 41, 42, 43] (by kernel_rfl)
      (fun f w' => Box1 (fun a w' => ∃ (i : Nat) (F : Nat → Prop), a = i64 i ∧ i ≤ N ∧ Wr w' g (pre ++ (b.L.take i).flatMap encM) F ∧ Nf w F ∧ Nw w w') (f 27) w') (fun f _ => N - (intOf (f 27)).toNat)
      ⟨0, F4, rfl, Nat.zero_le _, by simpa using hW4, nF4, k4⟩ ?_
    rintro f w5 ⟨i, F, f27, hi, hW, nF, k5⟩
    by_cases hlt : i < N
    · have hltL : i < b.L.length := by omega
      have hi1 : IntKind.i64.wrap ((i : Int) + 1) = ((i + 1 : Nat) : Int) := by rw [w64 (by omega) (by omega)]; omega
      obtain ⟨i1, hi1'⟩ : ∃ i1, i1 = i + 1 := ⟨_, rfl⟩
      have htk : (b.L.take i1).flatMap encM = (b.L.take i).flatMap encM ++ encM b.L[i] := by rw [hi1', List.take_succ_eq_append_getElem hltL, List.flatMap_append]; simp
      rw [← hi1'] at hi1
      have hltq : i < q.length := by omega
      obtain ⟨ga, o, rfl, e0, e1, e2, e3⟩ := msg_at (hr.nw k5) hltq
      have hqi : q[i].1 = b.L[i] := by simp only [← hq, List.getElem_map]
      have hbq := hb _ (List.getElem_mem hltq)
      rw [hqi] at e0 e1 e2 hbq
      have hmb := hms _ (List.getElem_mem hltL)
      have htl : ((b.L.take i).flatMap encM).length ≤ 1236 * 24 := by
        have := encMs_len (b.L.take i) fun m hm => hms m (List.mem_of_mem_take hm)
        have h2 : (b.L.take i).length ≤ 24 := by rw [List.length_take]; omega
        have h3 := Nat.mul_le_mul_left 1236 h2
        omega
      generalize (b.L.take i).flatMap encM = cur at *
      generalize b.L[i] = m at *
      generalize q[i].2 = mv at *
      obtain ⟨Bm, dm, rfl, hrm, hom, hdm⟩ := hbq
      have ka : Nw w5 (w5.alloc (.cells #[i64 m.uid, i64 m.flags, i64 m.date, .slice Bm m.body.length dm] 41)) := (Kp.refl _ _).alloc _
      have hy0 := Blk.new w5 41 #[i64 m.uid, i64 m.flags, i64 m.date, .slice Bm m.body.length dm]
      obtain ⟨y, hy⟩ : ∃ y, y = w5.heap.size := ⟨_, rfl⟩
      have hFy : ∀ k, F k → k < y := fun k hk => by have := hW.lt_ k hk; omega
      have hWa := hW.kp_ ka fun _ _ h => h
      have ka5 := k5.nw ka
      have hys6 : (w5.alloc (.cells #[i64 m.uid, i64 m.flags, i64 m.date, .slice Bm m.body.length dm] 41)).heap.size = y + 1 := by simp [hy]
      simp -dsimp [go_sem, f27, hlt, e0, e1, e2, e3]
      rw [← hy] at hy0 ⊢
      generalize w5.alloc (.cells #[i64 m.uid, i64 m.flags, i64 m.date, .slice Bm m.body.length dm] 41) = w6 at *
      have hys := hy0.lt
      have y0 := hy0.cell 0
      have y1 := hy0.cell 1
      have y2 := hy0.cell 2
      have kn : Nw w6 (w6.alloc (.cells #[i64 m.uid, i64 m.flags, i64 m.date] 3)) := (Kp.refl _ _).alloc _
      refine call (wNums_spec g (pre ++ cur) [m.uid, m.flags, m.date] F (some ⟨y + 1, 0, none⟩) 3 _ (hWa.kp_ kn fun _ _ h => h) (Rd.fresh hys6.symm rfl) (fun a ha _ hf => by cases ha; have := hWa.lt_ _ hf; simp at this; omega) (by rw [List.length_append]; simp; omega)) ?_
      rintro v w7 ⟨rfl, F7, hW7, hG7, hK7⟩
      have hy7 := (hy0.nw kn).kp hK7 fun e => Nat.lt_irrefl _ (hFy y e)
      have y3 := hy7.cell 3
      have k7 : Nw w w7 := (ka5.nw kn).at_ hK7 fun k hk => nF k hk
      have nF7 : Nf w F7 := Nf.gr nF hG7 (ka5.nw kn).size
      simp -dsimp [go_sem, y3]
      have kr : Nw w7 (w7.alloc (.cells #[.slice Bm m.body.length dm] 26)) := (Kp.refl _ _).alloc _
      have hnum := numsB_len [m.uid, m.flags, m.date]
      simp only [List.length_cons, List.length_nil] at hnum
      refine call (wBytes_spec g _ [m.body] F7 (some ⟨w7.heap.size, 0, none⟩) 1 _ (hW7.kp_ kr fun _ _ h => h) (brs_one (Blk.new w7 _ _) (fun e => by have := hW7.lt_ _ e; omega) ((hrm.nw k7).nw kr) (hrm.ofl fun i hi => nF7 i hi) hdm) (by rw [List.length_append, List.length_append]; simp [load]; omega)) ?_
      rintro v w8 ⟨rfl, F8, hW8, hG8, hK8⟩
      have k8 : Nw w w8 := (k7.nw kr).at_ hK8 fun k hk => nF7 k hk
      have nF8 : Nf w F8 := Nf.gr nF7 hG8 (k7.nw kr).size
      have he : pre ++ cur ++ numsB [m.uid, m.flags, m.date] ++ rowsB [m.body] = pre ++ (cur ++ encM m) := by simp [rowsB, encM]
      rw [he, ← htk] at hW8
      simp -dsimp [go_sem, f27, hi1]
      exact ⟨⟨i1, F8, rfl, by omega, hW8, nF8, k8⟩, by simp [intOf]; omega⟩
    · obtain rfl : i = N := by omega
      rw [hN, List.take_length] at hW
      have hex : encX b = pre ++ b.L.flatMap encM := by rw [hpre, hnl]; rfl
      have htl := encMs_len b.L hms
      rw [← hex] at hW
      have hexl : (encX b).length ≤ 140737488355328 := by rw [hex, List.length_append]; omega
      simp -dsimp [go_sem, f27, hlt]
      refine call (wOut_spec g (encX b) F w5 hW hexl) ?_
      rintro v w6 ⟨hB6, hk6⟩
      simp -dsimp [go_sem]
      exact ⟨.inl ⟨hib, _, rfl, hB6.mono (by have := k5.size; omega)⟩, k5.nw hk6⟩
end Go.Proofs.YtindfpaahlijeaaDoor
