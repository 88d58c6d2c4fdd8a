/-
  Changes handed in: one, rows of them, acts with them. By the session itself. How heavy a change is; StoreOfNothing walked. By the session itself. All that a store tells, as one text: state walked. By the session itself.
-/
import Derived.Test.YtipdndmfngpbfaaGreatDoorQ07
import Derived.Test.YtipdndmfngpbfaaGreatDoorQ21
import Derived.Test.YtipdndmfngpbfaaGreatDoorQ34
import Derived.Test.YtipdndmfngpbfaaGreatDoorQ10
namespace Go.Vc
set_option linter.unusedSimpArgs false
set_option linter.unusedVariables false
open Go.Deep Go.ChangeShapes Go.WideShapes Go.ChangeAt Go.RowKit Go.ChangeMaps
section
variable {H : Type} {enc : TypeId × Value → H} {P : Program} {W : World} {base : Nat} {spare : Nat → Bool} {held : Bool}
theorem sz_strT {fuel : Nat} {t : TypeId} {cs : List Value} {x : DataW H × List MemPlace} (ht : P.underlying t = some .string) (hz : Sz P t x.1) (h : DataW.trod enc P W base spare held fuel t cs = some x) : ∃ s : List UInt8, cs = [.string ⟨s.toArray⟩] ∧ s.length ≤ reachBytes := by
  obtain ⟨s, rfl, rfl, _⟩ := DataW.trod_string ht h
  refine ⟨s.data.toList, by simp, ?_⟩
  exact hz s.data.toList.length (by rw [DataW.weights]; simp)
theorem flat_catT {α : Type} (cells : α → List Value) (K : Nat) (hc : ∀ a, (cells a).length = K) : ∀ (q : List α) (i : Nat) (h : i < q.length), ∀ j < K, (q.flatMap cells)[i * K + j]? = (cells q[i])[j]?
  | p :: q, 0, _, j, hj => by
    rw [List.flatMap_cons, List.getElem?_append_left (by rw [hc]; omega), Nat.zero_mul, Nat.zero_add]
    rfl
  | p :: q, i + 1, h, j, hj => by
    have := flat_catT cells K hc q i (by simpa using h) j hj
    rw [List.flatMap_cons, List.getElem?_append_right (by rw [hc, Nat.add_mul]; omega), hc]
    rw [show (i + 1) * K + j - K = i * K + j by rw [Nat.add_mul]; omega, this]
    rfl
end
end Go.Vc
namespace Go.Proofs.YtipdndmfngpbfaaGreatDoor
set_option linter.unusedSimpArgs false
set_option linter.unusedVariables false
set_option maxRecDepth 100000
open Go.Vc Go.Deep Go.ChangeShapes Go.WideShapes Go.ChangeAt Go.RowKit Go.ChangeMaps
/-- A change, and the slices that its rows lie in. -/
abbrev CQ := Chg × Value × Value
def ccells (p : CQ) : List Value := [i64 p.1.kind, str p.1.user, str p.1.pass, str p.1.box, str p.1.to, p.2.1, i64 p.1.mode, i64 p.1.flags, i64 p.1.date, p.2.2]
/-- A change as an argument has it. -/
def ChgG (W : World) (p : CQ) : Prop := RdI W p.2.1 p.1.uids ∧ RdB W p.2.2 p.1.body (fun _ => False) ∧ p.1.user.length ≤ 140737488355328 ∧ p.1.pass.length ≤ 140737488355328 ∧ p.1.box.length ≤ 140737488355328 ∧ p.1.to.length ≤ 140737488355328 ∧ p.1.uids.length ≤ 140737488355328 ∧ p.1.body.length ≤ 140737488355328 ∧
  I64 p.1.kind ∧ I64 p.1.mode ∧ I64 p.1.flags ∧ I64 p.1.date ∧ ∀ n ∈ p.1.uids, I64 n
theorem ChgG.nw {w w' : World} {p : CQ} (h : ChgG w p) (k : Nw w w') : ChgG w' p := ⟨h.1.nw k, h.2.1.nw k, h.2.2⟩
theorem ChgG.rc {w : World} {p : CQ} (h : ChgG w p) : RC w (.agg (ccells p).toArray) p.1 (fun _ => False) := by
  obtain ⟨⟨A, ca, e1, h1, h2⟩, ⟨B, cb, e2, h3, h4, h5⟩, _⟩ := h
  refine ⟨A, ca, B, cb, ?_, h2, h5, h1, fun _ _ _ h => h, h3, h4⟩
  unfold ccells
  rw [e1, e2]
section
variable {H : Type} {enc : TypeId × Value → H} {P : Program} {W : World} {base : Nat} {spare : Nat → Bool} {held : Bool}
theorem trod_chg {t ti ts tl tb tu : TypeId} {fuel : Nat} {cs : List Value} {x : DataW H × List MemPlace} (hu : (P.underlying t).map flds = some [(ti, 0), (ts, 1), (ts, 2), (ts, 3), (ts, 4), (tl, 5), (ti, 6), (ti, 7), (ti, 8), (tb, 9)]) (hi : P.underlying ti = some (.int .i64)) (hs : P.underlying ts = some .string) (hl : P.underlying tl = some (.slice ti)) (hb : P.underlying tb = some (.slice tu)) (hu8 : P.underlying tu = some (.int .u8))
    (ci : P.cellsOf ti = 1) (cs' : P.cellsOf ts = 1) (cl : P.cellsOf tl = 1) (cb : P.cellsOf tb = 1) (cu : P.cellsOf tu = 1) (ct : P.cellsOf t = 10) (bi : P.bytesOf ti = 8) (bu : P.bytesOf tu = 1) (hz : Sz P t x.1) (h : DataW.trod enc P W base spare held fuel t cs = some x) : ∃ p : CQ, cs = ccells p ∧ (ccells p).length = 10 ∧ ChgG W p := by
  obtain ⟨hlen, n, hf⟩ := trod_flds_z hu (by simp) hz h
  rw [ct] at hlen
  match cs, hlen with
  | [v0, v1, v2, v3, v4, v5, v6, v7, v8, v9], _ =>
    obtain ⟨y0, h0, _⟩ := hf 0 _ rfl
    obtain ⟨y1, h1, s1⟩ := hf 1 _ rfl
    obtain ⟨y2, h2, s2⟩ := hf 2 _ rfl
    obtain ⟨y3, h3, s3⟩ := hf 3 _ rfl
    obtain ⟨y4, h4, s4⟩ := hf 4 _ rfl
    obtain ⟨y5, h5, s5⟩ := hf 5 _ rfl
    obtain ⟨y6, h6, _⟩ := hf 6 _ rfl
    obtain ⟨y7, h7, _⟩ := hf 7 _ rfl
    obtain ⟨y8, h8, _⟩ := hf 8 _ rfl
    obtain ⟨y9, h9, s9⟩ := hf 9 _ rfl
    simp only [ci, cs', cl, cb] at h0 h1 h2 h3 h4 h5 h6 h7 h8 h9
    obtain ⟨n0, e0, _, w0⟩ := DataW.trod_int hi h0
    obtain ⟨a1, e1, l1⟩ := sz_strT hs s1 h1
    obtain ⟨a2, e2, l2⟩ := sz_strT hs s2 h2
    obtain ⟨a3, e3, l3⟩ := sz_strT hs s3 h3
    obtain ⟨a4, e4, l4⟩ := sz_strT hs s4 h4
    obtain ⟨A, c, zs, e5, hr5, hc5, hm5, hz5⟩ := trod_nums hl hi ci h5
    obtain ⟨n6, e6, _, w6⟩ := DataW.trod_int hi h6
    obtain ⟨n7, e7, _, w7⟩ := DataW.trod_int hi h7
    obtain ⟨n8, e8, _, w8⟩ := DataW.trod_int hi h8
    obtain ⟨B, d, xs, e9, hr9, hc9, hm9⟩ := trod_bytes hb hu8 cu h9
    simp at e0 e1 e2 e3 e4 e5 e6 e7 e8 e9
    subst e0; subst e1; subst e2; subst e3; subst e4; subst e5; subst e6; subst e7; subst e8; subst e9
    have l5 := sz_len h5 s5 hl
    have l9 := sz_len h9 s9 hb
    rw [bi] at l5
    rw [bu] at l9
    unfold reachBytes at l1 l2 l3 l4 l5 l9
    exact ⟨(⟨n0, a1, a2, a3, a4, zs, n6, n7, n8, xs⟩, .slice A zs.length c, .slice B xs.length d), rfl, rfl, ⟨A, c, rfl, hr5, hc5⟩, ⟨B, d, rfl, hr9, fun _ _ _ h => h, hc9⟩, by simp only; omega, by simp only; omega, by simp only; omega, by simp only; omega, by simp only; omega, by simp only; omega, i64_wf w0, i64_wf w6, i64_wf w7, i64_wf w8, fun n hn => i64_wf (hz5 n hn)⟩
theorem arg_chg {r : Reach} {tys : List TypeId} {ds : List (DataW H)} {j : Nat} {t ti ts tl tb tu : TypeId} {v : Value} {d : DataW H} {ps : List MemPlace} (hz : (DataW.weightsEach P tys ds).all (· ≤ reachBytes) = true) (hts : tys[j]? = some t) (hds : ds[j]? = some d)
    (hu : (P.underlying t).map flds = some [(ti, 0), (ts, 1), (ts, 2), (ts, 3), (ts, 4), (tl, 5), (ti, 6), (ti, 7), (ti, 8), (tb, 9)]) (hi : P.underlying ti = some (.int .i64)) (hs : P.underlying ts = some .string) (hl : P.underlying tl = some (.slice ti)) (hb : P.underlying tb = some (.slice tu)) (hu8 : P.underlying tu = some (.int .u8))
    (ci : P.cellsOf ti = 1) (cs' : P.cellsOf ts = 1) (cl : P.cellsOf tl = 1) (cb : P.cellsOf tb = 1) (cu : P.cellsOf tu = 1) (ct : P.cellsOf t = 10) (bi : P.bytesOf ti = 8) (bu : P.bytesOf tu = 1) (hval : ∃ b0, Value.okWide P W r b0 t v) (h : DataW.Trod enc P W base spare held t v d ps) :
    ∃ p : CQ, v = .agg (ccells p).toArray ∧ ChgG W p := by
  obtain ⟨_, hval⟩ := hval
  obtain ⟨fs, hs0⟩ := struct_of hu (by simp)
  obtain ⟨cs, rfl, hsz⟩ := okWide_struct hs0 hval
  obtain ⟨fuel, hf⟩ := h
  obtain ⟨p, e, _, hg⟩ := trod_chg hu hi hs hl hb hu8 ci cs' cl cb cu ct bi bu (sz_arg hz hts hds) hf
  exact ⟨p, by rw [← e]; rfl, hg⟩
theorem arg_chgs {r : Reach} {tys : List TypeId} {ds : List (DataW H)} {j : Nat} {t e ti ts tl tb tu : TypeId} {v : Value} {d : DataW H} {ps : List MemPlace} (hz : (DataW.weightsEach P tys ds).all (· ≤ reachBytes) = true) (hts : tys[j]? = some t) (hds : ds[j]? = some d)
    (ht : P.underlying t = some (.slice e)) (hu : (P.underlying e).map flds = some [(ti, 0), (ts, 1), (ts, 2), (ts, 3), (ts, 4), (tl, 5), (ti, 6), (ti, 7), (ti, 8), (tb, 9)]) (hi : P.underlying ti = some (.int .i64)) (hs : P.underlying ts = some .string) (hl : P.underlying tl = some (.slice ti)) (hb : P.underlying tb = some (.slice tu)) (hu8 : P.underlying tu = some (.int .u8))
    (ci : P.cellsOf ti = 1) (cs' : P.cellsOf ts = 1) (cl : P.cellsOf tl = 1) (cb : P.cellsOf tb = 1) (cu : P.cellsOf tu = 1) (ct : P.cellsOf e = 10) (bi : P.bytesOf ti = 8) (bu : P.bytesOf tu = 1) (hval : ∃ b0, Value.okWide P W r b0 t v) (h : DataW.Trod enc P W base spare held t v d ps) :
    ∃ A c, ∃ q : List CQ, v = .slice A q.length c ∧ Rd W A (q.flatMap ccells) ∧ q.length ≤ c ∧ c ≤ maxLen ∧ ∀ p ∈ q, ChgG W p := by
  obtain ⟨_, hval⟩ := hval
  obtain ⟨A, n, c, rfl⟩ := okWide_slice ht hval
  obtain ⟨fuel, hf⟩ := h
  obtain ⟨A', c', xs, e, h1, h2, h3, h4⟩ := trod_structs_z ccells (ChgG W) ht ct (by omega) (sz_arg hz hts hds) (fun n cs y hy ht => trod_chg hu hi hs hl hb hu8 ci cs' cl cb cu ct bi bu hy ht) hf
  simp only [Value.cells, List.cons.injEq, and_true] at e
  exact ⟨A', c', xs, e, h1, h2, h3, h4⟩
end
theorem chg_at {w : World} {A : Option Addr} {q : List CQ} (hr : Rd w A (q.flatMap ccells)) {i : Nat} (hi : i < q.length) :
    ∃ g o, A = some ⟨g, o, none⟩ ∧ ∀ j u, (ccells q[i])[j]? = some u → w.cell? ⟨g, o + i * 10 + j, none⟩ = some u := by
  have hat := flat_catT ccells 10 (fun _ => rfl) q i hi
  obtain ⟨g, o, rfl, _⟩ := hr _ _ ((hat 0 (by omega)).trans rfl)
  refine ⟨g, o, rfl, fun j u hj => ?_⟩
  have hj10 : j < 10 := (List.getElem?_eq_some_iff.1 hj).1
  obtain ⟨_, _, e, e1⟩ := hr _ _ ((hat j hj10).trans hj)
  cases e
  rw [Nat.add_assoc]
  exact e1
end Go.Proofs.YtipdndmfngpbfaaGreatDoor

namespace Go.Proofs.YtipdndmfngpbfaaGreatDoor
set_option linter.unusedSimpArgs false
set_option linter.unusedVariables false
set_option maxRecDepth 100000
set_option maxHeartbeats 2000000
open Go.Vc Go.RowKit

def heavyN (c : Chg) : Nat := 1 + c.user.length + c.pass.length + c.box.length + c.to.length + c.uids.length + c.body.length
theorem heavy14_spec {v : Value} {c : Chg} (h : ChV v c) (hs : CSz c) (w : World) : Cal Tryz.prog 13 #[v] w fun v' w' => v' = i64 (heavyN c) ∧ Nw w w' := by
  obtain ⟨A, ca, B, cb, rfl⟩ := h
  obtain ⟨h1, h2, h3, h4, h5, h6, _⟩ := hs
  unfold heavyN
  generalize hul : c.uids.length = ul at *
  generalize hbl : c.body.length = bl at *
  generalize hn1 : c.user.length = n1 at *
  generalize hn2 : c.pass.length = n2 at *
  generalize hn3 : c.box.length = n3 at *
  generalize hn4 : c.to.length = n4 at *
  have w1 : IntKind.i64.wrap ((1 : Int) + (n1 : Int)) = ((1 + n1 : Nat) : Int) := by rw [w64 (by omega) (by omega)]; omega
  have w2 : IntKind.i64.wrap (((1 + n1 : Nat) : Int) + (n2 : Int)) = ((1 + n1 + n2 : Nat) : Int) := by rw [w64 (by omega) (by omega)]; omega
  have w3 : IntKind.i64.wrap (((1 + n1 + n2 : Nat) : Int) + (n3 : Int)) = ((1 + n1 + n2 + n3 : Nat) : Int) := by rw [w64 (by omega) (by omega)]; omega
  have w4 : IntKind.i64.wrap (((1 + n1 + n2 + n3 : Nat) : Int) + (n4 : Int)) = ((1 + n1 + n2 + n3 + n4 : Nat) : Int) := by rw [w64 (by omega) (by omega)]; omega
  have w5 : IntKind.i64.wrap (((1 + n1 + n2 + n3 + n4 : Nat) : Int) + (ul : Int)) = ((1 + n1 + n2 + n3 + n4 + ul : Nat) : Int) := by rw [w64 (by omega) (by omega)]; omega
  have w6 : IntKind.i64.wrap (((1 + n1 + n2 + n3 + n4 + ul : Nat) : Int) + (bl : Int)) = ((1 + n1 + n2 + n3 + n4 + ul + bl : Nat) : Int) := by rw [w64 (by omega) (by omega)]; omega
  generalize 1 + n1 + n2 + n3 + n4 + ul + bl = s6 at *
  generalize 1 + n1 + n2 + n3 + n4 + ul = s5 at *
  generalize 1 + n1 + n2 + n3 + n4 = s4 at *
  generalize 1 + n1 + n2 + n3 = s3 at *
  generalize 1 + n1 + n2 = s2 at *
  generalize 1 + n1 = s1 at *
  refine enter Tryz.mixed Tryz.func13 rfl (by kernel_rfl) ?_
  simp -dsimp [go_sem, hul, hbl, hn1, hn2, hn3, hn4, w1, w2, w3, w4, w5, w6]
  exact (Kp.refl _ _).alloc _
theorem stnothing_law {v : Value} {c : Chg} (h : ChV v c) (hs : CSz c) (w : World) : Cal Tryz.prog 10 #[v] w fun v' w' => v' = .bool true ∧ Nw w w' := by
  have hV := h
  obtain ⟨A, ca, B, cb, rfl⟩ := h
  refine enter Tryz.mixed Tryz.func10 rfl (by kernel_rfl) ?_
  simp -dsimp [go_sem]
  have k0 : Nw w (w.alloc (.cells (chV c A ca B cb) 25)) := (Kp.refl _ _).alloc _
  have hy := Blk.new w 25 (chV c A ca B cb)
  obtain ⟨y, hy'⟩ : ∃ y, y = w.heap.size := ⟨_, rfl⟩
  rw [← hy'] at hy ⊢
  generalize w.alloc (.cells (chV c A ca B cb) 25) = wa at *
  refine call (heavy14_spec hV hs wa) ?_
  rintro v w1 ⟨rfl, k1⟩
  have n1 := k0.nw k1
  have hy1 := hy.nw k1
  by_cases hh : 2000 < heavyN c
  · have hh' : (2000 : Int) < (heavyN c : Int) := by omega
    simp -dsimp [go_sem, hh, hh']
    exact n1
  · have hh' : ¬ (2000 : Int) < (heavyN c : Int) := by omega
    have y0 := hy1.cell 0
    have y1 := hy1.cell 1
    have y2 := hy1.cell 2
    have y3 := hy1.cell 3
    have y4 := hy1.cell 4
    have y5 := hy1.cell 5
    have y6 := hy1.cell 6
    have y7 := hy1.cell 7
    have y8 := hy1.cell 8
    have y9 := hy1.cell 9
    simp -dsimp [go_sem, hh, hh', y0, y1, y2, y3, y4, y5, y6, y7, y8, y9]
    refine call (do_nil hV w1) ?_
    rintro v w2 ⟨rfl, k2⟩
    have hy2 := hy1.nw k2
    have y21 := hy2.cell 1
    have y23 := hy2.cell 3
    simp -dsimp [go_sem, y21, y23]
    refine call (get_nil c.user c.box w2) ?_
    rintro v w3 ⟨rfl, k3⟩
    have n3 := (n1.nw k2).nw k3
    have ka : Nw w3 (w3.alloc (.cells #[.string ⟨#[]⟩, i64 0, i64 0, .slice none 0 0] 52)) := (Kp.refl _ _).alloc _
    have hy3 := (hy2.nw k3).nw ka
    have y31 := hy3.cell 1
    have y32 := hy3.cell 2
    have n4 := n3.nw ka
    simp -dsimp [go_sem]
    refine call (sopen_nil _) ?_
    rintro v w4 ⟨rfl, rfl⟩
    simp -dsimp [go_sem, y31, y32]
    refine call (check_nil c.user c.pass _) ?_
    rintro v w5 ⟨rfl, rfl⟩
    simp -dsimp [go_sem]
    refine call (users_nil _) ?_
    rintro v w6 ⟨rfl, rfl⟩
    simp -dsimp [go_sem, y31]
    refine call (boxes_nil c.user _) ?_
    rintro v w7 ⟨rfl, rfl⟩
    simp -dsimp [go_sem]
    refine call (dead_nil _) ?_
    rintro v w8 ⟨rfl, rfl⟩
    simp -dsimp [go_sem]
    refine call (stknown_spec _) ?_
    rintro v w9 ⟨rfl, k9⟩
    simp -dsimp [go_sem]
    exact n4.nw k9
theorem ChgG.sz {w : World} {p : CQ} (h : ChgG w p) : CSz p.1 ∧ ChV (.agg (ccells p).toArray) p.1 := by
  obtain ⟨⟨A, ca, e1, h1, h2⟩, ⟨B, cb, e2, h3, h4, h5⟩, a1, a2, a3, a4, a5, a6, _, _, _, _, a7⟩ := h
  refine ⟨⟨a1, a2, a3, a4, a5, a6, a7⟩, A, ca, B, cb, ?_⟩
  unfold ccells
  rw [e1, e2]
theorem stnothing_row {w : World} (p : CQ) (h : ChgG w p) : Cal Tryz.prog 10 #[.agg (ccells p).toArray] w fun v' w' => v' = .bool true ∧ Nw w w' := stnothing_law h.sz.2 h.sz.1 w
end Go.Proofs.YtipdndmfngpbfaaGreatDoor

namespace Go.Proofs.YtipdndmfngpbfaaGreatDoor
set_option linter.unusedSimpArgs false
set_option linter.unusedVariables false
set_option maxRecDepth 100000
set_option maxHeartbeats 2000000
open Go.Vc Go.RowKit

theorem nm_conv {w : World} {A : Option Addr} {c : Nat} {l : List UInt8} (hr : Rd w A (l.map u8)) : convR Tryz.prog 23 9 (.slice A l.length c) w = .ok (str l) w := conv_str (e := 5) (by kernel_rfl) (by kernel_rfl) (by kernel_rfl) hr
/-- A box taken out of a store, in a variable of the statement's. -/
def BxV (w0 w' : World) (z : Nat) (b : Bx) : Prop := ∃ A n c, n = b.L.length ∧ Blk w' z 52 #[.string b.name, i64 b.val, i64 b.next, .slice A n c] ∧ RB w' (.agg #[.string b.name, i64 b.val, i64 b.next, .slice A n c]) b (fun _ => False) ∧ Nw w0 w' ∧ w0.heap.size ≤ z
theorem BxV.put {w w3 w5 : World} {z : Nat} {b : Bx} {A : Option Addr} {c B : Nat} (hO : OB w5 (.agg #[.string b.name, i64 b.val, i64 b.next, .slice A b.L.length c]) b B) {cs : Array Value} (hz : Blk w5 z 52 #[.string ⟨#[]⟩, i64 0, i64 0, .slice none 0 0]) (hzB : z < B) (n : Nw w3 w5) (hzl : w3.heap.size ≤ z) :
    BxV w3 ((((w5.setCell ⟨z, 0, none⟩ (.string b.name)).setCell ⟨z, 1, none⟩ (i64 b.val)).setCell ⟨z, 2, none⟩ (i64 b.next)).setCell ⟨z, 3, none⟩ (.slice A b.L.length c)) z b := by
  have ks := kp_set4 w5 z (.string b.name) (i64 b.val) (i64 b.next) (.slice A b.L.length c)
  have hO2 := hO.kp ks fun k hk _ (e : k = z) => by omega
  exact ⟨A, _, c, rfl, blk_set4 hz _ _ _ _, hO2.rb.any, n.at_ ks fun k (e : k = z) => by omega, hzl⟩
theorem BxV.alloc {w3 w5 : World} {b : Bx} {A : Option Addr} {c B : Nat} (hO : OB w5 (.agg #[.string b.name, i64 b.val, i64 b.next, .slice A b.L.length c]) b B) (n : Nw w3 w5) :
    BxV w3 (w5.alloc (.cells #[.string b.name, i64 b.val, i64 b.next, .slice A b.L.length c] 52)) w5.heap.size b := by
  have ka : Nw w5 (w5.alloc (.cells #[.string b.name, i64 b.val, i64 b.next, .slice A b.L.length c] 52)) := (Kp.refl _ _).alloc _
  exact ⟨A, _, c, rfl, Blk.new _ _ _, (hO.nw ka).rb.any, n.nw ka, n.size⟩
theorem bxsL_at {T : Stt} {n : Nm} {u : Usr} (h : tLook T.us n = some u) : bxsL T n = keysA u.bx := by unfold bxsL; rw [h]
theorem getB_at {T : Stt} {n m : Nm} {u : Usr} (h : tLook T.us n = some u) : getB T n m = tLook u.bx m := by unfold getB; rw [h]
theorem Sm.state {w0 w : World} {s g l t : Nat} {S : Sto} {U E : Nat → Prop} (h : Sm w0 w s g l t S U E) (ok : S.T.Ok) :
    Cal Tryz.prog 26 #[.pointer (some ⟨s, 0, none⟩)] w fun v w' => v = str (stateT S.T) ∧ Nw w w' := by
  have hl4 := ok.len
  refine enter Tryz.mixed Tryz.func26 rfl (by kernel_rfl) ?_
  simp -dsimp [go_sem]
  refine call (h.users ok) ?_
  rintro v w1 ⟨k1, A, ca, rfl, hrA, hca, hAl⟩
  rw [keysA_len]
  obtain ⟨N, hN⟩ : ∃ N, N = S.T.us.length := ⟨_, rfl⟩
  rw [← hN] at hl4 ⊢
  simp -dsimp [go_sem]
  refine loop [3, 5, 6, 7, 8, 9, 10, 11, 14, 15, 16, 17, 18, 19, 20, 21, 22, 23, 24, 25, 26, 27, 28, 29, 30, 31, 32, 33, 34, 35, 36, 37, 38, 39, 40, 41, 42, 43, 44, 45, 46, 47, 48, 49, 50, 51, 52, 53, 54, 55, 56, 57, 58, 59, 60, 61] (by kernel_rfl)
    (fun f w' => Box2 (fun a b w' => ∃ (i : Nat) (o : Nm), a = i64 i ∧ i ≤ N ∧ b = str o ∧ o = (S.T.us.take i).flatMap userT ∧ Nw w1 w') (f 5) (f 3) w') (fun f _ => N - (intOf (f 5)).toNat)
    ⟨0, [], rfl, Nat.zero_le _, rfl, by simp, Kp.refl _ _⟩ ?_
  rintro f w3 ⟨i, o, f5, hi, f3, ho, k3⟩
  have hol := stateT_len ok i
  rw [← ho] at hol
  by_cases hlt : i < N
  · have hltL : i < S.T.us.length := by omega
    have hi1 : IntKind.i64.wrap ((i : Int) + 1) = ((i + 1 : Nat) : Int) := by rw [w64 (by omega) (by omega)]; omega
    obtain ⟨i1, hi1'⟩ : ∃ i1, i1 = i + 1 := ⟨_, rfl⟩
    have htk : (S.T.us.take i1).flatMap userT = o ++ userT S.T.us[i] := by rw [ho, hi1', List.take_succ_eq_append_getElem hltL, List.flatMap_append]; simp
    rw [← hi1'] at hi1
    obtain ⟨gA, oA, rfl, cA1⟩ := hrA i (str S.T.us[i].1) (by simp [keysA, hltL])
    have cA := k3.cell_some cA1 fun h => h
    have hlk := look_at ok.srt hltL
    have hUO := ok.us _ _ hlk
    generalize S.T.us[i] = X at *
    obtain ⟨nm, u⟩ := X
    simp only at cA cA1 hlk hUO htk
    have unm := (nmOk_len hUO.1).2
    have h3 := (h.nw k1).nw k3
    have a1 : ¬ 9223372036854775807 < o.length + 1 := by omega
    obtain ⟨o1, ho1⟩ : ∃ o1, o1 = o ++ [47] := ⟨_, rfl⟩
    obtain ⟨pre, hpre⟩ : ∃ pre, pre = o1 ++ nm := ⟨_, rfl⟩
    have ho1l : o1.length = o.length + 1 := by rw [ho1]; simp
    have hprel : pre.length = o.length + 1 + nm.length := by rw [hpre, List.length_append, ho1l]
    have a2 : ¬ 9223372036854775807 < o1.length + nm.length := by omega
    have c1 : (⟨o.toArray⟩ : ByteArray) ++ ⟨#[47]⟩ = ⟨o1.toArray⟩ := by rw [ho1]; exact cat_str o [47]
    have c2 : (⟨o1.toArray⟩ : ByteArray) ++ ⟨nm.toArray⟩ = ⟨pre.toArray⟩ := by rw [hpre]; exact cat_str o1 nm
    simp -dsimp [go_sem, f3, f5, hlt, cA, a1, a2, c1, c2]
    refine call (h3.boxes ok nm) ?_
    rw [bxsL_at hlk]
    rintro v w4 ⟨k4, Z, cz, rfl, hrZ, hcz, hZl⟩
    rw [keysA_len]
    obtain ⟨M, hM⟩ : ∃ M, M = u.bx.length := ⟨_, rfl⟩
    rw [← hM]
    have n4 := k3.nw k4
    simp -dsimp [go_sem]
    refine loop [3, 7, 8, 9, 10, 11, 33, 34, 35, 36, 37, 38, 39, 40, 41, 42, 43, 44, 45, 46, 47, 48, 49, 50, 51, 52, 53, 54, 55, 56, 57, 58, 59, 60, 61] (by kernel_rfl)
      (fun f w' => Box2 (fun a b w' => ∃ (j : Nat) (q : Nm), a = i64 j ∧ j ≤ M ∧ b = str q ∧ q = pre ++ (u.bx.take j).flatMap boxT ∧ Nw w4 w') (f 7) (f 3) w') (fun f _ => M - (intOf (f 7)).toNat)
      ⟨0, pre, rfl, Nat.zero_le _, rfl, by simp, Kp.refl _ _⟩ ?_
    rintro f' w5 ⟨j, q, f7, hj, f3', hq, k5⟩
    have hbl := boxesT_len hUO.2 j
    have hub := hUO.2.len
    have hql : q.length ≤ 600000 := by rw [hq, List.length_append]; omega
    by_cases hltj : j < M
    · have hltB : j < u.bx.length := by omega
      have hj1 : IntKind.i64.wrap ((j : Int) + 1) = ((j + 1 : Nat) : Int) := by rw [w64 (by omega) (by omega)]; omega
      obtain ⟨j1, hj1'⟩ : ∃ j1, j1 = j + 1 := ⟨_, rfl⟩
      have htkj : pre ++ (u.bx.take j1).flatMap boxT = q ++ boxT u.bx[j] := by rw [hq, hj1', List.take_succ_eq_append_getElem hltB, List.flatMap_append]; simp
      rw [← hj1'] at hj1
      have hrZ5 := hrZ.nw k5
      obtain ⟨gZ, oZ, rfl, cZ⟩ := hrZ5 j (str u.bx[j].1) (by simp [keysA, hltB])
      have hlkb := look_at hUO.2.srt hltB
      have hBO := hUO.2.bx _ _ hlkb
      generalize u.bx[j] = Y at *
      obtain ⟨bn, b⟩ := Y
      simp only at cZ hlkb hBO htkj
      have cA5 := (k4.nw k5).cell_some cA fun h => h
      have h5 := (h3.nw k4).nw k5
      have hw5 : ∀ cs, Nw w5 (w5.alloc (.cells cs 52)).drew := fun cs => ((Kp.refl _ _).alloc _).drew
      have kd : Nw w5 w5.drew := (Kp.refl _ _).drew
      have hget : ∀ W, Nw w5 W → Cal Tryz.prog 22 #[.pointer (some ⟨s, 0, none⟩), str nm, str bn] W fun v w' => Nw W w' ∧ ∃ bv, v = .tuple #[bv, .bool true] ∧ OB w' bv b W.heap.size := fun W k => by
        refine ((h5.nw k).get ok nm bn).mono ?_
        rw [getB_at hlk, hlkb]
        rintro v w' ⟨a1, b', bv, e1, e2, e3⟩
        rcases e3 with e3 | e3
        · cases e3
        · cases e3
          exact ⟨a1, bv, e1, e2⟩
      simp -dsimp [go_sem, f7, hltj]
      refine draw_cut (.take 0 (.take 1 (.take 2 (.take 3 (.take 4 (.take 5 (.take 6 (.take 7 (.take 8 (.alt 9 (.take 10 (.take 11 (.take 12 (.alt 13 (.alt 14 (.take 15 .done) .stop) .stop)))) (.alt 13 (.alt 9 (.take 10 (.take 11 (.take 12 (.alt 14 (.take 15 .done) .stop)))) .stop) .stop)))))))))))
        (fun st w' => st 0 = .pointer (some ⟨s, 0, none⟩) ∧ st 3 = str q ∧ st 4 = .slice (some ⟨gA, oA, none⟩) N ca ∧ st 5 = i64 i ∧ st 6 = .slice (some ⟨gZ, oZ, none⟩) M cz ∧ st 7 = i64 j ∧ ∃ z, st 8 = .pointer (some ⟨z, 0, none⟩) ∧ BxV w5 w' z b)
        (by kernel_rfl) (fun wz => Nw w5 wz) kd ?_ ?_
      · simp -dsimp [go_sem, f5, hlt, cA5, f7, hltj, cZ]
        refine ⟨fun wz hz => by simp [hz.cell_some cA5 fun h => h], fun wz hz => by simp [hz.cell_some cZ fun h => h], ?_, ?_⟩
        · refine call (hget _ kd) ?_
          rintro v w6 ⟨k6, bv, rfl, hO⟩
          obtain ⟨A6, c6, rfl⟩ := hO.open_
          have n6 := kd.nw k6
          have hB := BxV.alloc hO n6
          refine ⟨n6, ?_⟩
          simp -dsimp [go_sem]
          have ka : ∀ cs, Nw w6 (w6.alloc (.cells cs 52)) := fun cs => (Kp.refl _ _).alloc _
          exact ⟨n6.nw (ka _), n6.nw (ka _), f3', f5, f7, hB⟩
        · have kz : Nw w5 (w5.alloc (.cells #[.string ⟨#[]⟩, i64 0, i64 0, .slice none 0 0] 52)).drew := ((Kp.refl _ _).alloc _).drew
          have hz0 : Blk (w5.alloc (.cells #[.string ⟨#[]⟩, i64 0, i64 0, .slice none 0 0] 52)).drew w5.heap.size 52 #[.string ⟨#[]⟩, i64 0, i64 0, .slice none 0 0] := (Blk.new w5 _ _).nw ((Kp.refl (fun _ => False) _).drew)
          refine ⟨kz, ?_⟩
          obtain ⟨z, hz⟩ : ∃ z, z = w5.heap.size := ⟨_, rfl⟩
          rw [← hz] at hz0 ⊢
          generalize (w5.alloc (.cells #[.string ⟨#[]⟩, i64 0, i64 0, .slice none 0 0] 52)).drew = wz at *
          have hzl := hz0.lt
          refine call (hget wz kz) ?_
          rintro v w6 ⟨k6, bv, rfl, hO⟩
          obtain ⟨A6, c6, rfl⟩ := hO.open_
          have n6 := kz.nw k6
          have hz6 := hz0.nw k6
          have z0 := hz6.cell 0
          have z1 := hz6.cell 1
          have z2 := hz6.cell 2
          have z3 := hz6.cell 3
          have zf0 := hz6.frozen 0
          have zf1 := hz6.frozen 1
          have zf2 := hz6.frozen 2
          have zf3 := hz6.frozen 3
          have hB := BxV.put (w := w) (cs := #[]) hO hz6 hzl n6 (by omega)
          refine ⟨n6, ?_⟩
          simp -dsimp [go_sem, z0, z1, z2, z3, zf0, zf1, zf2, zf3]
          exact ⟨n6.at_ (kp_set4 w6 z _ _ _ _) fun k (e : k = z) => by omega, f3', f5, f7, hB⟩
      · rintro f8 w6 ⟨e0, e3, e4, e5, e6, e7, z, e8, A6, n6, c6, hn6, hz, hR, k6, hzl⟩
        have z0 := hz.cell 0
        have z1 := hz.cell 1
        have z2 := hz.cell 2
        have z3 := hz.cell 3
        have hI := IsB.of hBO.2
        have hbs : b.name.size ≤ 9223372036854775807 := by
          have := isB_name hBO.2
          unfold nameOk at this
          simp only [Bool.and_eq_true, decide_eq_true_eq] at this
          have := this.2; omega
        simp -dsimp [go_sem, e8, z0, z1, z2, z3]
        refine call (rencode_spec _ b w6 hR hbs (by have := hI.len; omega)) ?_
        rintro v w7 ⟨hE, k7⟩
        rcases hE with ⟨_, ev, rfl, hB7⟩ | ⟨hno, _⟩
        · obtain ⟨X, x, rfl, hoX, _⟩ := hB7
          have hex := encX_len2 hBO.2
          have hcv := nm_conv (c := x) hoX.rd
          have htx : boxT (bn, b) = [124] ++ encX b := rfl
          rw [htx] at htkj
          obtain ⟨ex, hex'⟩ : ∃ ex, ex = encX b := ⟨_, rfl⟩
          rw [← hex'] at htkj hex hcv ⊢
          obtain ⟨q1, hq1⟩ : ∃ q1, q1 = q ++ [124] := ⟨_, rfl⟩
          obtain ⟨q2, hq2⟩ : ∃ q2, q2 = q1 ++ ex := ⟨_, rfl⟩
          have hq1l : q1.length = q.length + 1 := by rw [hq1]; simp
          have b1 : ¬ 9223372036854775807 < q.length + 1 := by omega
          have b2 : ¬ 9223372036854775807 < q1.length + ex.length := by omega
          have d1 : (⟨q.toArray⟩ : ByteArray) ++ ⟨#[124]⟩ = ⟨q1.toArray⟩ := by rw [hq1]; exact cat_str q [124]
          have d2 : (⟨q1.toArray⟩ : ByteArray) ++ ⟨ex.toArray⟩ = ⟨q2.toArray⟩ := by rw [hq2]; exact cat_str q1 ex
          simp -dsimp [go_sem, e3, hcv, b1, b2, d1, d2, e7, hj1]
          exact ⟨⟨j1, q2, rfl, by omega, rfl, by rw [htkj, hq2, hq1, List.append_assoc], (k5.nw k6).nw k7⟩, by simp [intOf, f7]; omega⟩
        · rw [hBO.2] at hno; cases hno
    · obtain rfl : j = M := by omega
      rw [hM, List.take_length] at hq
      have hfin : q = (S.T.us.take i1).flatMap userT := by
        rw [htk, hq, hpre, ho1]
        unfold userT
        simp only [List.append_assoc]
      simp -dsimp [go_sem, f7, hltj, f5, hi1, f3']
      exact ⟨⟨i1, q, rfl, by omega, rfl, hfin, n4.nw k5⟩, by simp [intOf]; omega⟩
  · obtain rfl : i = N := by omega
    rw [hN, List.take_length] at ho
    simp -dsimp [go_sem, f5, hlt, f3]
    exact ⟨by rw [ho]; rfl, k1.nw k3⟩
end Go.Proofs.YtipdndmfngpbfaaGreatDoor

