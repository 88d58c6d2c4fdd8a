/-
  The reference's disk: Truncate walked. By the session itself. The reference's disk: Append walked. By the session itself. The reference's disk: Rename walked. By the session itself. The reference's disk: Crash walked. By the session itself. The reference's disk: Copy walked. By the session itself. disk.Copy walked. By the session itself. DiskPlays: the disk and that of the reference side by side. By the session itself. The reference's Reader: Bad, Raw, Num, Bytes, Whole walked. By the session itself.
-/
import Derived.Test.YtipdndmfngpbfaaGreatDoorQ29
import Derived.Test.YtipdndmfngpbfaaGreatDoorQ08
namespace Go.Proofs.YtipdndmfngpbfaaGreatDoor
set_option linter.unusedSimpArgs false
set_option linter.unusedVariables false
set_option maxRecDepth 100000
set_option maxHeartbeats 1000000
open Go.Vc Go.RowKit

theorem fc_set_same : ∀ (L : RL) (i : Nat) (a : Nm) (f f' : Fil) (v : Value), f.l = f'.l → fc (L.set i (a, (f, v))) = fc (L.set i (a, (f', v)))
  | [], _, _, _, _, _, _ => rfl
  | p :: r, 0, a, f, f', v, e => by simp [fc, e]
  | p :: r, i + 1, a, f, f', v, e => by
    have := fc_set_same r i a f f' v e
    exact congrArg (fun t => str p.1 :: p.2.2 :: i64 p.2.1.l :: t) this
/-- A file's bytes, set anew. -/
theorem refM_set1 {w2 w3 : World} {x room c g : Nat} {left : Option Nat} {L : RL} {Q F : Nat → Prop} (h : RefM w2 x room left L (some ⟨g, 0, none⟩) c Q F) (hK : Nw w2 w3) (i : Nat) (hlt : i < L.length) {v : Value} {b : List UInt8} (hv : Bs w3 v b w2.heap.size) :
    ∃ Q' F', RefM (w3.setCell ⟨g, i * 3 + 1, none⟩ v) x room left (L.set i (L[i].1, (⟨b, L[i].2.1.l⟩, v))) (some ⟨g, 0, none⟩) c Q' F' ∧ Gr F F' w2 (w3.setCell ⟨g, i * 3 + 1, none⟩ v) ∧ Kp F w2 (w3.setCell ⟨g, i * 3 + 1, none⟩ v) := by
  obtain ⟨B, d, rfl, hoB, hB⟩ := hv
  have hs : Kp (At g) w3 (w3.setCell ⟨g, i * 3 + 1, none⟩ (.slice B b.length d)) := (Kp.refl _ _).setCell_at _ _
  have hFg : F g := h.inn g (.inr (.inl rfl))
  have hgl := h.lt g hFg
  have hxl := h.lt x (h.inn x (.inl rfl))
  have hxg : x ≠ g := fun e => h.offx _ rfl e.symm
  have hlen : (L.set i (L[i].1, (⟨b, L[i].2.1.l⟩, Value.slice B b.length d))).length = L.length := by simp
  have h3 := h.nw hK
  have hBn : ∀ k, blk B k → w2.heap.size ≤ k ∧ k < w3.heap.size := fun k hk => by
    obtain ⟨a, ha, rfl⟩ := blk_of hk
    exact ⟨hB a ha, hoB.lt a ha⟩
  refine ⟨fun k => Q k ∨ blk B k, fun k => F k ∨ blk B k, ⟨?_, ?_, fun q hq => ?_, fun k hk => ?_, h.offx, fun k hk => ?_, fun k hk => Nat.lt_of_lt_of_le ?_ hs.size⟩, fun k hk => ?_, (Nw.kp hK F).trans hs fun k _ e => by rw [show k = g from e]; exact hFg⟩
  · rw [hlen]; exact h3.blk.kp hs fun e => hxg e
  · rw [hlen, fc_set_same L i L[i].1 ⟨b, L[i].2.1.l⟩ L[i].2.1 _ rfl, ← fc_set1 L i hlt]; exact ow_setN h3.own _ _
  · have hb : Bv w3 q.2.2 q.2.1.b (fun k => Q k ∨ blk B k) := by
      rcases List.mem_or_eq_of_mem_set hq with hq | rfl
      · exact (h3.bytes q hq).mono fun k hk => .inl hk
      · exact ⟨B, d, rfl, hoB.rd, hoB.2.1, fun k hk => .inr hk⟩
    refine hb.kp hs fun k hk e => ?_
    have e : k = g := e
    rcases hk with hk | hk
    · exact (h.offq k hk).2 (by rw [e]; rfl)
    · have := (hBn k hk).1; omega
  · rcases hk with e | e | e | e
    · exact .inl (h.inn k (.inl e))
    · exact .inl (h.inn k (.inr (.inl e)))
    · exact .inl (h.inn k (.inr (.inr e)))
    · exact .inr e
  · rcases hk with hk | hk
    · exact h.offq k hk
    · have := (hBn k hk).1
      exact ⟨fun e => by omega, fun e => by have e : k = g := e; omega⟩
  · rcases hk with e | e
    · exact Nat.lt_of_lt_of_le (h.lt k e) hK.size
    · exact (hBn k e).2
  · rcases hk with e | e
    · exact .inl e
    · exact .inr ⟨(hBn k e).1, Nat.lt_of_lt_of_le (hBn k e).2 hs.size⟩
theorem rtrunc_spec (s : Nm) (n : Int) (x : Nat) (D : Dsk) (F : Nat → Prop) (w : World) (h : RefD w x D F) (ok : D.Ok) (hsl : s.length ≤ 9223372036854775807) :
    Cal Tryz.prog 140 #[.pointer (some ⟨x, 0, none⟩), str s, i64 n] w fun v w' => v = i64 (dTrunc D s n).2 ∧ ∃ F', RefD w' x (dTrunc D s n).1 F' ∧ Gr F F' w w' ∧ Kp F w w' := by
  have hm := fun w1 (k : Nw w w1) (A : Option Addr) (c : Nat) (hr : Rd w1 A ([s].map fun s => str s)) => rmay_spec [s] A c x D F w1 (h.nw k) hr (by simp) (by simpa using hsl)
  obtain ⟨L, A, c, Q, he, h0⟩ := id h
  have hll := h0.lenL he ok
  have hsr := h0.srt he ok
  have hlk := dRead_look he s
  refine enter Tryz.mixed Tryz.func140 rfl (by kernel_rfl) ?_
  have ka : Nw w (w.alloc (.cells #[str s] 9)) := (Kp.refl _ _).alloc _
  simp -dsimp [go_sem]
  refine call (hm _ ka (some ⟨w.heap.size, 0, none⟩) 1 (Rd.fresh rfl rfl)) ?_
  rintro v w1 ⟨rfl, rfl⟩
  have e0 : dTrunc D s n = if mayL D [s] ≠ 0 then (D, mayL D [s]) else match tLook D.fs s with
    | none => (D, 7)
    | some x => if n < 0 ∨ (x.b.length : Int) < n then (D, 1) else (Dsk.done { D with fs := tLay D.fs s ⟨x.b.take n.toNat, min x.l n.toNat⟩ }, 0) := rfl
  by_cases hz : mayL D [s] = 0
  · rw [hz]
    rw [if_neg (by simp [hz])] at e0
    simp -dsimp [go_sem]
    refine call (rspot_spec s x D.room c D.left L A Q F _ (h0.nw ka) hll hsr) ?_
    rintro v w2 ⟨rfl, hk2⟩
    have n2 := ka.nw hk2
    have h2 := h0.nw n2
    cases ht : tLook L s with
    | none =>
      rw [hlk, ht] at e0
      rw [e0]
      simp -dsimp [go_sem]
      exact ⟨F, h.nw n2, fun k hk => .inl hk, Nw.kp n2 F⟩
    | some q =>
      obtain ⟨f, vv⟩ := q
      rw [hlk, ht] at e0
      simp only [Option.map_some] at e0
      have hat := sp_at hsr ht
      have hlt := (List.getElem?_eq_some_iff.1 hat).1
      have hLi := (List.getElem?_eq_some_iff.1 hat).2
      have hmem : (s, (f, vv)) ∈ L := List.mem_of_getElem? hat
      obtain ⟨B, d, hv, hrB, hd, hq⟩ := h2.bytes _ hmem
      simp only at hv hrB hd
      obtain ⟨_, c1, c2⟩ := fc_at L (spN L s) hlt
      have hold := fun f' => sp_old hsr ht f'
      rw [hLi] at c1 c2
      simp only at c1 c2
      subst hv
      obtain ⟨g, rfl⟩ := h2.own.some (by omega)
      obtain ⟨b, o, e1, hc1⟩ := h2.own.rd _ _ c1
      cases e1
      rw [Nat.zero_add] at hc1
      have b1 : w2.cell? ⟨x, 1, none⟩ = some (.slice (some ⟨g, 0, none⟩) L.length c) := h2.blk.cell 1
      have hub : f.b.length ≤ 1073741824 := by
        have h2 := sumv_ge (fun f : Fil => f.b.length) (show tLook D.fs s = some f by rw [hlk, ht]; rfl)
        have h3 := ok.used
        have h4 := ok.room
        have h5 : D.used = sumv (fun f : Fil => f.b.length) D.fs := rfl
        omega
      generalize spN L s = i at *
      by_cases hn0 : n < 0
      · rw [if_pos (.inl hn0)] at e0
        rw [e0]
        simp -dsimp [go_sem, hn0]
        exact ⟨F, h.nw n2, fun k hk => .inl hk, Nw.kp n2 F⟩
      · by_cases hn1 : (f.b.length : Int) < n
        · rw [if_pos (.inr hn1)] at e0
          rw [e0]
          simp -dsimp [go_sem, hn0, b1, hlt, hc1, hn1]
          exact ⟨F, h.nw n2, fun k hk => .inl hk, Nw.kp n2 F⟩
        · rw [if_neg (by omega)] at e0
          obtain ⟨m, rfl⟩ : ∃ m : Nat, n = m := ⟨n.toNat, by omega⟩
          rw [Int.toNat_natCast] at e0
          have hmd : m ≤ d := by omega
          have hml : m ≤ f.b.length := by omega
          have kd : Nw w2 w2.drew := (Kp.refl _ _).drew
          have b1d := kd.cell_some b1 fun h => h
          have hc1d := kd.cell_some hc1 fun h => h
          have hlen1 : (f.b.take m).length = m := by simp [Nat.min_eq_left hml]
          simp -dsimp [go_sem, hn0, b1, hlt, hc1, hn1]
          refine drawD (.take 0 (.take 1 (.take 2 (.take 3 (.take 4 (.take 6 (.take 7 (.take 8 (.take 9 (.take 10 (.take 11 (.take 12 (.take 13 (.take 14 (.take 15 (.alt 5 (.alt 16 (.alt 17 (.alt 18 (.alt 19 .done .stop) .stop) .stop) .stop) .stop)))))))))))))))) 19 (by kernel_rfl) (fun wz => Nw w2 wz) kd ?_
          simp -dsimp [go_sem, b1d, hlt, hc1d, hmd]
          have ka2 : Nw w2 (w2.alloc (.cells #[] 5)).drew := ((Kp.refl _ _).alloc _).drew
          refine ⟨fun wz hz => by simp [hz.cell_some b1 fun h => h], fun wz hz => by simp [hz.cell_some hc1 fun h => h], ka2, ?_⟩
          refine gs_app Tryz.Su8 (B := w2.heap.size) ((Gs.made w2 5 1 0 #[] rfl rfl rfl (by simp [maxLen]) (Nat.le_refl _)).nw ((Kp.refl _ _).drew)) (ys := (f.b.take m).map u8) (m := m) (by rw [List.map_take]; exact (hrB.nw ka2).take _) (by simp [Nat.min_eq_left hml]) (one_u8 _) (by omega) (by omega) ka2.size ?_
          intro v3 w3 hG3 hk3
          have n3 : Nw w2 w3 := Nw.fr ka2 hk3 (Nat.le_refl _)
          rw [List.nil_append] at hG3
          have hB3 : Bs w3 v3 (f.b.take m) w2.heap.size := Bs.of_gs hG3 (by rw [hlen1]; omega)
          refine ⟨.inr n3, ?_⟩
          obtain ⟨Q4, F4, hM4, hG4, hK4⟩ := refM_set1 h2 n3 i hlt hB3
          rw [hLi] at hM4
          simp only at hM4
          obtain ⟨B3, d3, rfl, ho3, hA3⟩ := id hB3
          have b13 := (h2.nw n3).blk.cell 1
          have hc13 := n3.cell_some hc1 fun h => h
          have hf13 := (h2.nw n3).own.frozen (i * 3 + 1)
          rw [hlen1] at hM4 hG4 hK4 ⊢
          simp -dsimp [go_sem, b13, hlt, hc13, hf13]
          generalize w3.setCell ⟨g, i * 3 + 1, none⟩ (.slice B3 m d3) = w4 at *
          obtain ⟨L4, hL4⟩ : ∃ L4, L4 = L.set i (s, (⟨f.b.take m, f.l⟩, Value.slice B3 m d3)) := ⟨_, rfl⟩
          rw [← hL4] at hM4
          have hlen4 : L4.length = L.length := by rw [hL4]; simp
          have hlt4 : i < L4.length := by omega
          have hL4i : L4[i] = (s, (⟨f.b.take m, f.l⟩, Value.slice B3 m d3)) := by simp [hL4]
          obtain ⟨_, _, c24⟩ := fc_at L4 i hlt4
          rw [hL4i] at c24
          obtain ⟨b, o, e1, hc24⟩ := hM4.own.rd _ _ c24
          cases e1
          rw [Nat.zero_add] at hc24
          have b14 : w4.cell? ⟨x, 1, none⟩ = some (.slice (some ⟨g, 0, none⟩) L4.length c) := hM4.blk.cell 1
          have hf24 := hM4.own.frozen (i * 3 + 2)
          rw [hlen4] at b14
          have kd4 : Nw w4 w4.drew := (Kp.refl _ _).drew
          have b14d := kd4.cell_some b14 fun h => h
          have hc24d := kd4.cell_some hc24 fun h => h
          have hf24d : w4.drew.frozen? ⟨g, i * 3 + 2, none⟩ = false := hf24
          refine ⟨n3, ?_⟩
          have hmin : min (f.l : Int) (m : Int) = ((min f.l m : Nat) : Int) := by omega
          refine drawD (.take 0 (.take 1 (.take 2 (.take 3 (.take 4 (.take 5 (.take 6 (.take 7 (.take 8 (.take 9 (.take 10 (.take 11 (.take 12 (.take 13 (.take 14 (.alt 15 (.alt 16 (.alt 17 .done .stop) .stop) .stop)))))))))))))))) 17 (by kernel_rfl) (fun wz => Nw w4 wz) kd4 ?_
          simp -dsimp [go_sem, b14d, hlt, hc24d, hf24d, hmin]
          refine ⟨fun wz hz => by simp [hz.cell_some b14 fun h => h], fun wz hz => by simp [hz.cell_some hc24 fun h => h], kd4, ?_⟩
          obtain ⟨hM5, hK5⟩ := hM4.set2 i hlt4 (min f.l m)
          rw [hL4i] at hM5
          simp only at hM5
          rw [hL4, List.set_set, ← hold] at hM5
          have hM6 := hM5.nw ((Kp.refl (fun _ => False) _).drew)
          have hfs : mapv Prod.fst (tLay L s ((⟨f.b.take m, min f.l m⟩ : Fil), Value.slice B3 m d3)) = tLay D.fs s ⟨f.b.take m, min f.l m⟩ := by rw [mapv_lay, he]
          have hR6 : RefD _ x { D with fs := tLay D.fs s ⟨f.b.take m, min f.l m⟩ } F4 := ⟨_, _, _, _, hfs, hM6⟩
          refine call (rdid_spec x _ F4 _ hR6 (fun n hn => by have := ok.left n hn; omega)) ?_
          rintro v w7 ⟨rfl, hR7, hk7⟩
          have hx4 : F4 x := hM6.inn x (.inl rfl)
          rw [e0]
          simp -dsimp [go_sem]
          have k24 : Kp F w2 _ := hK4.trans hK5.drew fun k hk e => by
            rcases hG4 k e with e | e
            · exact e
            · omega
          exact ⟨F4, hR7, Gr.wide hG4 n2.size (Nat.le_trans hK5.drew.size hk7.size), ((Nw.kp n2 F).trans k24 fun _ _ h => h).trans hk7 fun k _ e => by rw [show k = x from e]; exact h2.inn x (.inl rfl)⟩
  · have hz' : ((mayL D [s] : Int) != 0) = true := by simp; omega
    rw [if_pos hz] at e0
    rw [e0]
    simp -dsimp [go_sem, hz']
    exact ⟨F, h.nw ka, fun k hk => .inl hk, Nw.kp ka F⟩
end Go.Proofs.YtipdndmfngpbfaaGreatDoor

namespace Go.Proofs.YtipdndmfngpbfaaGreatDoor
set_option linter.unusedSimpArgs false
set_option linter.unusedVariables false
set_option maxRecDepth 100000
set_option maxHeartbeats 1000000
open Go.Vc Go.RowKit

end Go.Proofs.YtipdndmfngpbfaaGreatDoor

namespace Go.Proofs.YtipdndmfngpbfaaGreatDoor
set_option linter.unusedSimpArgs false
set_option linter.unusedVariables false
set_option maxRecDepth 100000
set_option maxHeartbeats 1000000
open Go.Vc Go.RowKit

end Go.Proofs.YtipdndmfngpbfaaGreatDoor

namespace Go.Proofs.YtipdndmfngpbfaaGreatDoor
set_option linter.unusedSimpArgs false
set_option linter.unusedVariables false
set_option maxRecDepth 100000
set_option maxHeartbeats 1000000
open Go.Vc Go.RowKit

end Go.Proofs.YtipdndmfngpbfaaGreatDoor

namespace Go.Proofs.YtipdndmfngpbfaaGreatDoor
set_option linter.unusedSimpArgs false
set_option linter.unusedVariables false
set_option maxRecDepth 100000
set_option maxHeartbeats 1000000
open Go.Vc Go.RowKit

end Go.Proofs.YtipdndmfngpbfaaGreatDoor

namespace Go.Proofs.YtipdndmfngpbfaaGreatDoor
set_option linter.unusedSimpArgs false
set_option linter.unusedVariables false
set_option maxRecDepth 100000
set_option maxHeartbeats 1000000
open Go.Vc Go.RowKit

end Go.Proofs.YtipdndmfngpbfaaGreatDoor

namespace Go.Proofs.YtipdndmfngpbfaaGreatDoor
set_option linter.unusedSimpArgs false
set_option linter.unusedVariables false
set_option maxRecDepth 100000
set_option maxHeartbeats 1000000
open Go.Vc Go.RowKit

/-- New since w0, and not in N. -/
abbrev Ns (w0 : World) (N : Nat → Prop) : Nat → Prop := fun k => w0.heap.size ≤ k ∧ ¬ N k
/-- A disk and one of the reference, each of its own new blocks, none of which lies in N. -/
def Pr (w0 w : World) (N : Nat → Prop) (d : Nat) (D : Dsk) (x : Nat) (E : Dsk) : Prop := ∃ F G, Dk w d D F ∧ RefD w x E G ∧ (∀ i, F i → ¬ G i) ∧ (∀ i, F i → Ns w0 N i) ∧ (∀ i, G i → Ns w0 N i) ∧ Nw w0 w
section
variable {w0 w w1 : World} {N : Nat → Prop} {d x : Nat} {D E D' : Dsk}
theorem Pr.nw (T : Pr w0 w N d D x E) (k : Nw w w1) : Pr w0 w1 N d D x E := by
  obtain ⟨F, G, h1, h2, h3, h4, h5, h6⟩ := T
  exact ⟨F, G, h1.nw k, h2.nw k, h3, h4, h5, h6.nw k⟩
theorem Pr.on (T : Pr w0 w N d D x E) : Nw w0 w := by
  obtain ⟨F, G, h1, h2, h3, h4, h5, h6⟩ := T
  exact h6
theorem Pr.ok (T : Pr w0 w N d D x E) : D.Ok := by
  obtain ⟨F, G, h1, h2, h3, h4, h5, h6⟩ := T
  exact h1.ok
theorem Pr.new (T : Pr w0 w N d D x E) {N' : Nat → Prop} (hN : ∀ i, N' i → N i ∨ w.heap.size ≤ i) : Pr w0 w N' d D x E := by
  obtain ⟨F, G, h1, h2, h3, h4, h5, h6⟩ := T
  exact ⟨F, G, h1, h2, h3, fun i hi => ⟨(h4 i hi).1, fun e => (hN i e).elim (h4 i hi).2 fun h => by have := h1.lt i hi; omega⟩, fun i hi => ⟨(h5 i hi).1, fun e => (hN i e).elim (h5 i hi).2 fun h => by have := h2.lt i hi; omega⟩, h6⟩
theorem Pr.kp {S : Nat → Prop} (T : Pr w0 w N d D x E) (k : Kp S w w1) (hS : ∀ i, S i → w0.heap.size ≤ i ∧ N i) : Pr w0 w1 N d D x E := by
  obtain ⟨F, G, h1, h2, h3, h4, h5, h6⟩ := T
  exact ⟨F, G, h1.kp k fun i hi e => (h4 i hi).2 (hS i e).2, h2.kp k fun i hi e => (h5 i hi).2 (hS i e).2, h3, h4, h5, h6.at_ k fun i hi => (hS i hi).1⟩
theorem Pr.rc {k : FuncId} {args : Array Value} {Q : Value → World → Prop} (T : Pr w0 w N d E x D) (k1 : Nw w w1) (hN : ∀ i, N i → i < w1.heap.size)
    (h : ∀ F, RefD w1 x D F → (∀ i, F i → Ns w0 N i) → (∀ i, F i → i < w.heap.size) → Cal Tryz.prog k args w1 fun v w' => Q v w' ∧ ∃ F', RefD w' x D' F' ∧ Gr F F' w1 w' ∧ Kp F w1 w') :
    Cal Tryz.prog k args w1 fun v w' => Q v w' ∧ Pr w0 w' N d E x D' ∧ Kp (Ns w0 N) w1 w' := by
  obtain ⟨F, G, h1, h2, h3, h4, h5, h6⟩ := T
  refine (h G (h2.nw k1) h5 h2.lt).mono ?_
  rintro v w' ⟨hv, G', hD, hG, hK⟩
  have h1' := h1.nw k1
  refine ⟨hv, ⟨F, G', h1'.kp hK (fun i hf hg => h3 i hf hg), hD, fun i hf hg => Gr.dj hG (fun i hg hf => h3 i hf hg) h1'.lt i hg hf, h4, fun i hi => ?_, Nw.at_ (h6.nw k1) hK fun i hi => (h5 i hi).1⟩, hK.mono fun i _ hi => h5 i hi⟩
  rcases hG i hi with e | e
  · exact h5 i e
  · exact ⟨by have := (h6.nw k1).size; omega, fun hn => by have := hN i hn; omega⟩
/-- What lay there before w0 reads as it did, and is none of the disks'. -/
theorem Pr.off {A : Option Addr} {xs : List Value} {F : Nat → Prop} (hr : Rd w0 A xs) (h : ∀ i, F i → Ns w0 N i) : Ofl A xs F := hr.ofl fun i hi => (h i hi).1
theorem dEach_one (f : Dsk → Nm → Fil → Dsk) (D : Dsk) (s : Nm) : dEach f D [s] = dStep f D s := by
  simp only [dEach]
  split
  · rfl
  · rename_i h
    have h : (dStep f D s).2 = 0 := by simpa using h
    rw [← h]
end
section
variable {w0 w w1 : World} {N : Nat → Prop} {d x : Nat} {D E : Dsk}
end

end Go.Proofs.YtipdndmfngpbfaaGreatDoor

namespace Go.Proofs.YtipdndmfngpbfaaGreatDoor
set_option linter.unusedSimpArgs false
set_option linter.unusedVariables false
set_option maxRecDepth 100000
set_option maxHeartbeats 1000000
open Go.Vc Go.RowKit

theorem ofl_cut {A : Option Addr} {xs : List Value} {S : Nat → Prop} (h : Ofl A xs S) (c m : Nat) : Ofl (cutA A c m) (xs.drop m) S := fun a ha hx hs => by
  have hk : blk A a.block := blk_cut (c := c) (m := m) (by rw [ha]; rfl)
  obtain ⟨a0, ha0, e⟩ := blk_of hk
  exact h a0 ha0 (fun e2 => hx (by rw [e2]; simp)) (e ▸ hs)
/-- The reference's Reader at block g. -/
def RefR (w : World) (g : Nat) (l : List UInt8) (bad : Bool) (F : Nat → Prop) : Prop :=
  ∃ A c, Blk w g 100 #[.slice A l.length c, .bool bad] ∧ l.length ≤ c ∧ 0 ≤ c ∧ Rd w A (l.map u8) ∧ Ofl A (l.map u8) (At g) ∧ (bad = true → l = []) ∧ (∀ k, k = g ∨ (l ≠ [] ∧ blk A k) → F k) ∧ (∀ k, F k → k < w.heap.size)
theorem RefR.kp_ {S : Nat → Prop} {w w' : World} {g : Nat} {l : List UInt8} {bad : Bool} {F : Nat → Prop} (h : RefR w g l bad F) (k : Kp S w w') (hd : ∀ i, F i → ¬ S i) : RefR w' g l bad F := by
  obtain ⟨A, c, hb, h1, h2, hr, hg, h3, hF, hFl⟩ := h
  exact ⟨A, c, hb.kp k (hd _ (hF _ (.inl rfl))), h1, h2, hr.kp k (fun a ha hx hs => hd _ (hF _ (.inr ⟨fun e => hx (by simp [e]), by rw [ha]; rfl⟩)) hs), hg, h3, hF, fun i hi => Nat.lt_of_lt_of_le (hFl i hi) k.size⟩
theorem RefR.new {w : World} {X : Option Addr} {l : List UInt8} {x : Nat} (hr : Rd w X (l.map u8)) (hx : l.length ≤ x) : RefR (w.alloc (.cells #[.slice X l.length x, .bool false] 100)) w.heap.size l false (fun k => k = w.heap.size ∨ (l ≠ [] ∧ blk X k)) := by
  have ka : Nw w (w.alloc (.cells #[.slice X l.length x, .bool false] 100)) := (Kp.refl _ _).alloc _
  have ho := hr.ofl (S := fun k => w.heap.size ≤ k) fun _ h => h
  refine ⟨X, x, Blk.new w _ _, hx, Nat.zero_le _, hr.nw ka, fun a ha hx (e : a.block = _) => ho a ha hx (by omega), by simp, fun k h => h, fun k hk => ?_⟩
  rcases hk with rfl | ⟨hne, hk⟩
  · simp
  · obtain ⟨a, ha, rfl⟩ := blk_of hk
    have := ho a ha (by simpa using hne)
    have := ka.size
    omega
theorem RefR.nw {w w' : World} {g : Nat} {l : List UInt8} {bad : Bool} {F : Nat → Prop} (h : RefR w g l bad F) (k : Nw w w') : RefR w' g l bad F := h.kp_ k fun _ _ h => h
theorem RefR.nil_ {w : World} {g : Nat} {l : List UInt8} {F : Nat → Prop} (h : RefR w g l true F) : l = [] := by
  obtain ⟨A, c, hb, h1, h2, hr, hg, h3, hF, hFl⟩ := h
  exact h3 rfl
theorem RefR.lt_ {w : World} {g : Nat} {l : List UInt8} {bad : Bool} {F : Nat → Prop} (h : RefR w g l bad F) : ∀ k, F k → k < w.heap.size := by
  obtain ⟨A, c, hb, h1, h2, hr, hg, h3, hF, hFl⟩ := h
  exact hFl
theorem ref_cut {w : World} {g c : Nat} {A : Option Addr} {l : List UInt8} {bad : Bool} {F : Nat → Prop} (hb : Blk w g 100 #[.slice A l.length c, .bool bad]) (hc : l.length ≤ c) (hcm : 0 ≤ c)
    (hr : Rd w A (l.map u8)) (ho : Ofl A (l.map u8) (At g)) (hbad : bad = true → l = []) (hF : ∀ k, k = g ∨ (l ≠ [] ∧ blk A k) → F k) (hFl : ∀ k, F k → k < w.heap.size) (m : Nat) (hm : m ≤ l.length) :
    RefR (w.setCell ⟨g, 0, none⟩ (.slice (cutA A c m) (l.length - m) (c - m))) g (l.drop m) bad F := by
  have hs : Kp (At g) w (w.setCell ⟨g, 0, none⟩ (.slice (cutA A c m) (l.length - m) (c - m))) := (Kp.refl _ _).setCell_at _ _
  refine ⟨cutA A c m, c - m, ?_, by simp; omega, by omega, ?_, by rw [List.map_drop]; exact ofl_cut ho c m, ?_, ?_, by simpa using hFl⟩
  · simpa [cutA] using hb.set 0 _
  · rw [List.map_drop]
    exact (hr.cut (by simpa using hc) m).kp hs (ofl_cut ho c m)
  · intro h
    simp [hbad h]
  · rintro k (rfl | ⟨hne, h⟩)
    · exact hF _ (.inl rfl)
    · exact hF _ (.inr ⟨fun e => hne (by simp [e]), blk_cut h⟩)
theorem refBad_spec (g : Nat) (l : List UInt8) (bad : Bool) (F : Nat → Prop) (w : World) (h : RefR w g l bad F) :
    Cal Tryz.prog 92 #[.pointer (some ⟨g, 0, none⟩)] w fun v w' => v = .tuple #[] ∧ RefR w' g [] true F ∧ Kp (At g) w w' := by
  obtain ⟨A, c, hb, hc, hcm, hr, ho, hbad, hF, hFl⟩ := h
  have h0 := hb.cell 0
  have h1 := hb.cell 1
  have f0 := hb.frozen 0
  have f1 := hb.frozen 1
  refine enter Tryz.mixed Tryz.func92 rfl (by kernel_rfl) ?_
  simp -dsimp [go_sem, h0, h1, f0, f1]
  refine ⟨⟨none, 0, ?_, Nat.le_refl _, by simp, Rd.nil _ _, by simp [Ofl], by simp, ?_⟩, ?_⟩
  · simpa using (hb.set 1 _).set 0 _
  · constructor
    · rintro k (rfl | h)
      · exact hF _ (.inl rfl)
      · exact absurd rfl h.1
    · simpa using hFl
  · exact ((Kp.refl _ w).setCell_at _ _).setCell_at _ _
theorem refWhole_spec (g : Nat) (l : List UInt8) (bad : Bool) (F : Nat → Prop) (w : World) (h : RefR w g l bad F) :
    Cal Tryz.prog 56 #[.pointer (some ⟨g, 0, none⟩)] w fun v w' => v = .bool (!bad && l.isEmpty) ∧ w = w' := by
  obtain ⟨A, c, hb, _⟩ := id h
  have h0 := hb.cell 0
  have h1 := hb.cell 1
  refine enter Tryz.mixed Tryz.func56 rfl (by kernel_rfl) ?_
  cases bad with
  | true => simp -dsimp [go_sem, h0, h1]
  | false =>
    simp -dsimp [go_sem, h0, h1]
    cases l <;> simp
    omega
theorem refRaw_spec (g : Nat) (l : List UInt8) (bad : Bool) (F : Nat → Prop) (n : Int) (w : World) (h : RefR w g l bad F) (hl : l.length ≤ 140737488355328) :
    Cal Tryz.prog 91 #[.pointer (some ⟨g, 0, none⟩), i64 n] w fun v w' => Bs w' v (rawL l bad n).1 w.heap.size ∧ RefR w' g (rawL l bad n).2.1 (rawL l bad n).2.2 F ∧ Kp (At g) w w' := by
  obtain ⟨A, c, hb, hc, hcm, hr, ho, hbad, hF, hFl⟩ := id h
  have h0 := hb.cell 0
  have h1' := hb.cell 1
  have f0 := hb.frozen 0
  by_cases h1 : n < 0
  · have e : rawL l bad n = ([], [], true) := if_neg (by omega)
    rw [e]
    refine enter Tryz.mixed Tryz.func91 rfl (by kernel_rfl) ?_
    simp -dsimp [go_sem, h1]
    refine call (refBad_spec g l bad F w h) ?_
    rintro v w' ⟨rfl, hR, hk⟩
    obtain ⟨A2, c2, hb2, _⟩ := id hR
    have e1 := hb2.cell 1
    simp -dsimp [go_sem, e1]
    exact ⟨⟨none, 0, rfl, Ow.nil _ _ _, by simp⟩, hR, hk⟩
  · by_cases h2 : (l.length : Int) < n
    · have e : rawL l bad n = ([], [], true) := if_neg (by omega)
      rw [e]
      refine enter Tryz.mixed Tryz.func91 rfl (by kernel_rfl) ?_
      simp -dsimp [go_sem, h1, h0, h2]
      refine call (refBad_spec g l bad F w h) ?_
      rintro v w' ⟨rfl, hR, hk⟩
      obtain ⟨A2, c2, hb2, _⟩ := id hR
      have e1 := hb2.cell 1
      simp -dsimp [go_sem, e1]
      exact ⟨⟨none, 0, rfl, Ow.nil _ _ _, by simp⟩, hR, hk⟩
    · obtain ⟨m, rfl⟩ : ∃ m : Nat, n = m := ⟨n.toNat, by omega⟩
      have hm : m ≤ l.length := by omega
      have e : rawL l bad m = (l.take m, l.drop m, bad) := if_pos (by omega)
      rw [e]
      refine enter Tryz.mixed Tryz.func91 rfl (by kernel_rfl) ?_
      have hmc : m ≤ c := by omega
      cases bad with
      | true =>
        have hnil := hbad rfl
        subst hnil
        obtain rfl : m = 0 := by simpa using hm
        simp -dsimp [go_sem, h0, h1']
        exact ⟨⟨none, 0, rfl, Ow.nil _ _ _, by simp⟩, h, Kp.refl _ _⟩
      | false =>
        have hr1 : Rd w A ((l.take m).map u8) := by rw [List.map_take]; exact hr.take m
        have ka : Nw w (w.alloc (.cells #[] 5)) := (Kp.refl _ _).alloc _
        have h0a := (hb.kp ka fun h => h).cell 0
        simp -dsimp [go_sem, h1, h0, h1', h2, hmc, sliced, h0a]
        refine bs_fresh (m := l.take m) rfl (by simp [Nat.min_eq_left hm]) hr1 (by simp; omega) ?_
        intro v w' hB hk
        have hb' := hb.kp hk (fun h => h)
        have h0' := hb'.cell 0
        have f0' := hb'.frozen 0
        simp -dsimp [go_sem, h0', f0', hm, sliced]
        have hs : Kp (At g) w' (w'.setCell ⟨g, 0, none⟩ (.slice (cutA A c m) (l.length - m) (c - m))) := (Kp.refl _ _).setCell_at _ _
        refine ⟨hB.kp hs fun i hi _ e => ?_, ref_cut hb' hc hcm (hr.nw hk) ho hbad hF (fun k h => Nat.lt_of_lt_of_le (hFl k h) hk.size) m hm, (hk.kp _).trans hs fun _ _ h => h⟩
        have h2 := hb.lt
        have e : i = g := e
        omega

theorem or_joinU (k u x : Nat) (hk : k ≤ 9) (hu : u < 2 ^ (7 * k)) (hx : x * 2 ^ (7 * k) < 18446744073709551616) : bits .or .u64 (u : Int) ((x * 2 ^ (7 * k) : Nat) : Int) = ((u + x * 2 ^ (7 * k) : Nat) : Int) := by
  have h1 : 2 ^ (7 * k) ≤ 2 ^ 63 := Nat.pow_le_pow_right (by omega) (by omega)
  rw [u64_or_nat u _ (by omega) (by omega), Nat.or_comm, nat_join (7 * k) _ _ (Nat.mul_mod_left _ _) hu, Nat.add_comm]
theorem shl_numU (c k : Nat) (hc : c < 256) (hk : k ≤ 9) (hb : c % 128 * 2 ^ (7 * k) < 18446744073709551616) : Op.shift .shl .u64 (IntKind.u64.wrap (bits .and .u8 (c : Int) 127)) .u64 (IntKind.u64.wrap (IntKind.i64.wrap (7 * (k : Int)))) = pure (.int .u64 ((c % 128 * 2 ^ (7 * k) : Nat) : Int)) := by
  have e1 : bits .and .u8 (c : Int) 127 = ((c % 128 : Nat) : Int) := by
    rw [show (127 : Int) = ((127 : Nat) : Int) from rfl, u8_and_nat c 127 hc (by omega), nat_mask7]
  have e2 : IntKind.u64.wrap ((c % 128 : Nat) : Int) = ((c % 128 : Nat) : Int) := by rw [IntKind.wrap_u64]; omega
  have e3 : IntKind.i64.wrap (7 * (k : Int)) = ((7 * k : Nat) : Int) := by rw [w64 (by omega) (by omega)]; omega
  have e4 : IntKind.u64.wrap ((7 * k : Nat) : Int) = ((7 * k : Nat) : Int) := by rw [IntKind.wrap_u64]; omega
  rw [e1, e2, e3, e4, shift_shl .u64 .u64 _ _ (by omega) (by simp [IntKind.bits]; omega), Int.toNat_natCast]
  congr 2
  rw [show ((c % 128 : Nat) : Int) * 2 ^ (7 * k) = ((c % 128 * 2 ^ (7 * k) : Nat) : Int) by simp, IntKind.wrap_u64]
  omega
theorem numL_none {l : List UInt8} {bad : Bool} (h : takeN 0 0 l = none) : numL l bad = (0, [], true) := by simp [numL, h]
theorem refNumT_spec (h : Nat) (l : List UInt8) (bad : Bool) (G : Nat → Prop) (w : World) (hR : RefR w h l bad G) (hl : l.length ≤ 140737488355328) :
    Cal Tryz.prog 54 #[.pointer (some ⟨h, 0, none⟩)] w fun v w' => v = i64 (numL l bad).1 ∧ RefR w' h (numL l bad).2.1 (numL l bad).2.2 G ∧ Kp (At h) w w' := by
  refine enter Tryz.mixed Tryz.func54 rfl (by kernel_rfl) ?_
  simp -dsimp [go_sem]
  refine loopx 0 [2, 3, 4, 5, 6, 7, 8, 9, 10, 11, 12, 13, 14, 15, 16, 17, 18, 19, 20, 21, 22, 23, 24, 25, 26, 27, 28, 29, 30, 31, 32, 33, 34, 35, 36, 37, 38, 39, 40, 41, 42, 43, 44, 45, 46, 47, 48, 49, 50, 51, 52, 53, 54] (by kernel_rfl)
    (fun f w' => Box2 (fun a b w' => ∃ (k u : Nat) (l1 : List UInt8), k ≤ 9 ∧ a = i64 k ∧ b = .int .u64 u ∧ u < 2 ^ (7 * k) ∧ l1.length ≤ l.length ∧ takeN k u l1 = takeN 0 0 l ∧ (l1 ≠ [] → bad = false) ∧ RefR w' h l1 bad G ∧ Kp (At h) w w') (f 4) (f 3) w') (fun f _ => 9 - (intOf (f 4)).toNat)
    (fun _ w' => Box (∃ l1 b1, RefR w' h l1 b1 G ∧ Kp (At h) w w' ∧ numL l bad = (0, [], true))) ⟨0, 0, l, by omega, rfl, rfl, by simp, Nat.le_refl _, rfl, fun hn => by
      cases bad with
      | false => rfl
      | true => exact absurd hR.nil_ hn, hR, Kp.refl _ _⟩ ?_ ?_
  · rintro f w' ⟨k, u, l1, hk, f4, f3, hu, hl1, ht, hnb, hR1, hK⟩
    have hk10 : (k : Int) < 10 := by omega
    simp -dsimp [go_sem, f4, f3, hk10]
    refine call (refRaw_spec h l1 bad G 1 w' hR1 (by omega)) ?_
    cases l1 with
    | nil =>
      rw [show rawL [] bad 1 = ([], [], true) from rfl]
      rintro v w2 ⟨hB, hR2, hk2⟩
      obtain ⟨A2, c2, hb2, _⟩ := id hR2
      have e1 := hb2.cell 1
      have e := numL_none (bad := bad) (ht.symm.trans rfl)
      simp -dsimp [go_sem, e1]
      rw [e]
      exact ⟨rfl, hR2, hK.trans hk2 fun _ _ h => h⟩
    | cons c r =>
      have hbad := hnb (by simp)
      rw [show rawL (c :: r) bad 1 = ([c], r, bad) by simp [rawL]; omega]
      rintro v w2 ⟨⟨A, cc, rfl, hoB, hA⟩, hR2, hk2⟩
      obtain ⟨A2, c2, hb2, _⟩ := id hR2
      have e1 := hb2.cell 1
      obtain ⟨b0, o0, rfl, hc0⟩ := hoB.rd 0 (u8 c) rfl
      rw [Nat.add_zero] at hc0
      have hK2 : Kp (At h) w w2 := hK.trans hk2 fun _ _ h => h
      rw [hbad] at e1
      have hc256 := UInt8.toNat_lt c
      have hrl : r.length ≤ l.length := by simp at hl1; omega
      obtain ⟨n, hn⟩ : ∃ n, n = c.toNat := ⟨_, rfl⟩
      have htk : takeN k u (c :: r) = if 9 ≤ k ∨ 0 < k ∧ n = 0 then none else if n < 128 then (if 4611686018427387904 < u + n % 128 * 2 ^ (7 * k) then none else some (u + n % 128 * 2 ^ (7 * k), r)) else takeN (k + 1) (u + n % 128 * 2 ^ (7 * k)) r := by rw [hn]; rfl
      have hcn : w2.cell? ⟨b0, o0, none⟩ = some (.int .u8 (n : Int)) := by rw [hc0, hn]
      have hn256 : n < 256 := by omega
      by_cases k9 : k = 9
      · have k9' : ((k : Int) == 9) = true := by simp; omega
        have hp9 : 2 ^ (7 * k) = 9223372036854775808 := by rw [k9]
        have hkp : 0 < k := by omega
        have hout : numL l bad = (0, [], true) := numL_none (ht.symm.trans (by rw [htk, if_pos (by omega)]))
        by_cases h127 : 127 < n
        · have h127' : (127 : Int) < (n : Int) := by omega
          simp -dsimp [go_sem, f4, f3, e1, hcn, k9', hkp, h127']
          exact ⟨_, _, hR2, hK2, hout⟩
        · have h127' : ¬ (127 : Int) < (n : Int) := by omega
          by_cases h1 : 1 < n
          · have h1' : (1 : Int) < (n : Int) := by omega
            simp -dsimp [go_sem, f4, f3, e1, hcn, k9', hkp, h127', h1']
            exact ⟨_, _, hR2, hK2, hout⟩
          · have h1' : ¬ (1 : Int) < (n : Int) := by omega
            have hx : n % 128 * 2 ^ (7 * k) < 18446744073709551616 := by
              rw [hp9]; omega
            have hsh := shl_numU n k hn256 (by omega) hx
            have hor := or_joinU k u (n % 128) (by omega) hu hx
            obtain ⟨x, hxd⟩ : ∃ x, x = n % 128 * 2 ^ (7 * k) := ⟨_, rfl⟩
            have hx9 : x = n % 128 * 9223372036854775808 := by rw [hxd, hp9]
            rw [← hxd] at hsh hor
            obtain ⟨y, hy⟩ : ∃ y, y = u + x := ⟨_, rfl⟩
            rw [← hy] at hor
            by_cases h0 : n = 0
            · have h0' : ((n : Int) == 0) = true := by simp; omega
              simp -dsimp [go_sem, f4, f3, e1, hcn, k9', hkp, h127', h1', hsh, hor, h0']
              exact ⟨_, _, hR2, hK2, hout⟩
            · have h0' : ((n : Int) == 0) = false := by simp; omega
              have hbig : (4611686018427387904 : Int) < (y : Int) := by
                obtain rfl : n = 1 := by omega
                omega
              simp -dsimp [go_sem, f4, f3, e1, hcn, k9', hkp, h127', h1', hsh, hor, h0', hbig]
              exact ⟨_, _, hR2, hK2, hout⟩
      · have hk8 : k ≤ 8 := by omega
        have k9' : ((k : Int) == 9) = false := by simp; omega
        have hp := Nat.pow_le_pow_right (show 0 < 2 by omega) (show 7 * k ≤ 56 by omega)
        have hx0 : n % 128 * 2 ^ (7 * k) ≤ 127 * 2 ^ (7 * k) := Nat.mul_le_mul_right _ (by omega)
        have hx : n % 128 * 2 ^ (7 * k) < 18446744073709551616 := by omega
        have hsh := shl_numU n k hn256 (by omega) hx
        have hor := or_joinU k u (n % 128) (by omega) hu hx
        have hy2 : u + n % 128 * 2 ^ (7 * k) < 2 ^ (7 * (k + 1)) := by
          have h2 : 2 ^ (7 * (k + 1)) = 128 * 2 ^ (7 * k) := by rw [show 7 * (k + 1) = 7 + 7 * k by omega, Nat.pow_add]
          omega
        obtain ⟨x, hxd⟩ : ∃ x, x = n % 128 * 2 ^ (7 * k) := ⟨_, rfl⟩
        rw [← hxd] at hsh hor hy2 htk
        obtain ⟨y, hy⟩ : ∃ y, y = u + x := ⟨_, rfl⟩
        rw [← hy] at hor hy2 htk
        have hy3 : y < 9223372036854775808 := Nat.lt_of_lt_of_le hy2 (Nat.pow_le_pow_right (by omega) (by omega : 7 * (k + 1) ≤ 63))
        have hk1 : IntKind.i64.wrap ((k : Int) + 1) = ((k + 1 : Nat) : Int) := w64 (by omega) (by omega)
        by_cases h127 : 127 < n
        · have h127' : (127 : Int) < (n : Int) := by omega
          by_cases hz : 0 < k ∧ n = 0
          · omega
          rw [if_neg (by omega), if_neg (by omega)] at htk
          obtain ⟨k1, hk1'⟩ : ∃ k1, k1 = k + 1 := ⟨_, rfl⟩
          rw [← hk1'] at hk1 hy2 htk
          simp -dsimp [go_sem, f4, f3, e1, hcn, k9', h127', hsh, hor, hk1]
          refine ⟨⟨k1, y, r, by omega, rfl, rfl, hy2, hrl, htk.symm.trans ht, fun _ => hbad, hR2, hK2⟩, by simp [intOf]; omega⟩
        · have h127' : ¬ (127 : Int) < (n : Int) := by omega
          by_cases hz : 0 < k ∧ n = 0
          · have hout : numL l bad = (0, [], true) := numL_none (ht.symm.trans (by rw [htk, if_pos (.inr hz)]))
            have hz1 : 0 < k := hz.1
            have hz2 : ((n : Int) == 0) = true := by simp; omega
            simp -dsimp [go_sem, f4, f3, e1, hcn, k9', h127', hsh, hor, hz1, hz2]
            exact ⟨_, _, hR2, hK2, hout⟩
          · rw [if_neg (by omega), if_pos (by omega)] at htk
            by_cases hbig : 4611686018427387904 < y
            · have hbig' : (4611686018427387904 : Int) < (y : Int) := by omega
              rw [if_pos hbig] at htk
              have hout : numL l bad = (0, [], true) := numL_none (ht.symm.trans htk)
              by_cases hk0 : 0 < k
              · have hz2 : ((n : Int) == 0) = false := by simp; omega
                simp -dsimp [go_sem, f4, f3, e1, hcn, k9', h127', hsh, hor, hk0, hz2, hbig']
                exact ⟨_, _, hR2, hK2, hout⟩
              · simp -dsimp [go_sem, f4, f3, e1, hcn, k9', h127', hsh, hor, hk0, hbig']
                exact ⟨_, _, hR2, hK2, hout⟩
            · have hbig' : ¬ (4611686018427387904 : Int) < (y : Int) := by omega
              rw [if_neg hbig] at htk
              have hres : numL l bad = (y, r, bad) := by simp [numL, ← ht, htk]
              have hy4 : IntKind.i64.wrap (y : Int) = y := w64 (by omega) (by omega)
              rw [hres]
              by_cases hk0 : 0 < k
              · have hz2 : ((n : Int) == 0) = false := by simp; omega
                simp -dsimp [go_sem, f4, f3, e1, hcn, k9', h127', hsh, hor, hk0, hz2, hbig', hy4]
                exact ⟨hR2, hK2⟩
              · simp -dsimp [go_sem, f4, f3, e1, hcn, k9', h127', hsh, hor, hk0, hbig', hy4]
                exact ⟨hR2, hK2⟩
  · rintro f w' ⟨l1, b1, hR1, hK, e⟩
    simp -dsimp [go_sem]
    refine call (refBad_spec h l1 b1 G w' hR1) ?_
    rintro v w2 ⟨rfl, hR2, hk2⟩
    simp -dsimp [go_sem]
    rw [e]
    exact ⟨rfl, hR2, hK.trans hk2 fun _ _ h => h⟩
theorem numL_bad {l : List UInt8} {bad : Bool} (h : bad = true → l = []) (hb : (numL l bad).2.2 = true) : numL l bad = (0, [], true) := by
  cases hl : takeN 0 0 l with
  | none => exact numL_none hl
  | some p =>
    obtain ⟨u, r⟩ := p
    simp only [numL, hl] at hb
    rw [h hb] at hl
    cases hl
theorem refBytesT_spec (h : Nat) (l : List UInt8) (bad : Bool) (G : Nat → Prop) (w : World) (hR : RefR w h l bad G) (hl : l.length ≤ 140737488355328) :
    Cal Tryz.prog 55 #[.pointer (some ⟨h, 0, none⟩)] w fun v w' => Bs w' v (bytL l bad).1 w.heap.size ∧ RefR w' h (bytL l bad).2.1 (bytL l bad).2.2 G ∧ Kp (At h) w w' := by
  refine enter Tryz.mixed Tryz.func55 rfl (by kernel_rfl) ?_
  simp -dsimp [go_sem]
  refine call (refNumT_spec h l bad G w hR hl) ?_
  rintro v w1 ⟨rfl, hR1, hk1⟩
  have hlen := numL_len l bad
  have hb0 : bad = true → l = [] := fun e => by subst e; exact hR.nil_
  have hbt : bytL l bad = rawL (numL l bad).2.1 (numL l bad).2.2 (numL l bad).1 := rfl
  have hnb := numL_bad hb0
  rw [hbt]
  obtain ⟨N, hN⟩ : ∃ N, N = numL l bad := ⟨_, rfl⟩
  rw [← hN] at hR1 hlen hnb ⊢
  obtain ⟨n, l1, b1⟩ := N
  obtain ⟨A2, c2, hb2, _⟩ := id hR1
  have e1 := hb2.cell 1
  simp only at hR1 hlen e1 hnb ⊢
  cases b1 with
  | true =>
    have := hnb rfl
    simp only [Prod.mk.injEq] at this
    obtain ⟨rfl, rfl, _⟩ := this
    simp -dsimp [go_sem, e1]
    exact ⟨⟨none, 0, rfl, Ow.nil _ _ _, by simp⟩, hR1, hk1⟩
  | false =>
    simp -dsimp [go_sem, e1]
    refine call (refRaw_spec h l1 false G n w1 hR1 (by omega)) ?_
    rintro v w2 ⟨hB, hR2, hk2⟩
    simp -dsimp [go_sem]
    exact ⟨hB.mono hk1.size, hR2, hk1.trans hk2 fun _ _ h => h⟩
end Go.Proofs.YtipdndmfngpbfaaGreatDoor

