/-
  What arguments are: structs, slices of structs that hold slices. By the session itself.
-/
import Derived.Test.YtindfpaahlijeaaDoorArz
import Derived.Test.YtindfpaahlijeaaDoorBxA
namespace Go.Proofs.YtindfpaahlijeaaDoor
set_option linter.unusedSimpArgs false
set_option linter.unusedVariables false
set_option maxRecDepth 100000
open Go.Vc Go.Deep Go.ChangeShapes Go.WideShapes Go.ChangeAt Go.RowKit Go.ChangeMaps
section
variable {H : Type} {enc : TypeId × Value → H} {P : Program} {W : World} {base : Nat} {spare : Nat → Bool} {held : Bool}
def I64 (n : Int) : Prop := -9223372036854775808 ≤ n ∧ n ≤ 9223372036854775807
/-- A message as an argument has it. -/
def MsgG (W : World) (p : Msg × Value) : Prop := RdB W p.2 p.1.body (fun _ => False) ∧ p.1.body.length ≤ maxLen ∧ I64 p.1.uid ∧ I64 p.1.flags ∧ I64 p.1.date
theorem trod_msg {t ti tb tu : TypeId} {fuel : Nat} {cs : List Value} {x : DataW H × List MemPlace} (hu : (P.underlying t).map flds = some [(ti, 0), (ti, 1), (ti, 2), (tb, 3)]) (hi : P.underlying ti = some (.int .i64)) (hb : P.underlying tb = some (.slice tu)) (hu8 : P.underlying tu = some (.int .u8))
    (ci : P.cellsOf ti = 1) (cb : P.cellsOf tb = 1) (cu : P.cellsOf tu = 1) (ct : P.cellsOf t = 4) (h : DataW.trod enc P W base spare held fuel t cs = some x) : ∃ p : Msg × Value, cs = [i64 p.1.uid, i64 p.1.flags, i64 p.1.date, p.2] ∧ ([i64 p.1.uid, i64 p.1.flags, i64 p.1.date, p.2] : List Value).length = 4 ∧ MsgG W p := by
  obtain ⟨hl, n, hf⟩ := trod_flds hu (by simp) h
  rw [ct] at hl
  match cs, hl with
  | [v0, v1, v2, v3], _ =>
    obtain ⟨y0, h0⟩ := hf 0 _ rfl
    obtain ⟨y1, h1⟩ := hf 1 _ rfl
    obtain ⟨y2, h2⟩ := hf 2 _ rfl
    obtain ⟨y3, h3⟩ := hf 3 _ rfl
    simp only [ci, cb] at h0 h1 h2 h3
    obtain ⟨n0, e0, _, w0⟩ := DataW.trod_int hi h0
    obtain ⟨n1, e1, _, w1⟩ := DataW.trod_int hi h1
    obtain ⟨n2, e2, _, w2⟩ := DataW.trod_int hi h2
    obtain ⟨A, c, xs, e3, hr, hc, hm⟩ := trod_bytes hb hu8 cu h3
    simp at e0 e1 e2 e3
    subst e0; subst e1; subst e2; subst e3
    exact ⟨(⟨n0, n1, n2, xs⟩, .slice A xs.length c), rfl, rfl, ⟨A, c, rfl, hr, fun _ _ _ h => h, hc⟩, Nat.le_trans hc hm, i64_wf w0, i64_wf w1, i64_wf w2⟩
/-- A box as an argument has it. -/
def BoxG (b : Bx) : Prop := b.name.size ≤ maxLen ∧ I64 b.val ∧ I64 b.next ∧ b.L.length ≤ maxLen ∧ ∀ m ∈ b.L, m.body.length ≤ maxLen ∧ I64 m.uid ∧ I64 m.flags ∧ I64 m.date
theorem arg_box {r : Reach} {t ts ti tl tm tb tu : TypeId} {fs : Array Field} {v : Value} {d : DataW H} {ps : List MemPlace} (hs0 : P.underlying t = some (.struct fs)) (hu : (P.underlying t).map flds = some [(ts, 0), (ti, 1), (ti, 2), (tl, 3)]) (ct : P.cellsOf t = 4)
    (hs : P.underlying ts = some .string) (hi : P.underlying ti = some (.int .i64)) (hl : P.underlying tl = some (.slice tm)) (hum : (P.underlying tm).map flds = some [(ti, 0), (ti, 1), (ti, 2), (tb, 3)]) (hb : P.underlying tb = some (.slice tu)) (hu8 : P.underlying tu = some (.int .u8))
    (cs1 : P.cellsOf ts = 1) (ci : P.cellsOf ti = 1) (cl : P.cellsOf tl = 1) (cm : P.cellsOf tm = 4) (cb : P.cellsOf tb = 1) (cu : P.cellsOf tu = 1) (hval : ∃ b0, Value.okWide P W r b0 t v) (h : DataW.Trod enc P W base spare held t v d ps) :
    ∃ b : Bx, RB W v b (fun _ => False) ∧ BoxG b := by
  obtain ⟨_, hval⟩ := hval
  obtain ⟨cs, rfl, hsz⟩ := okWide_struct hs0 hval
  obtain ⟨fuel, hf⟩ := h
  obtain ⟨hlen, n, hfl⟩ := trod_flds hu (by simp) hf
  obtain ⟨cs⟩ := cs
  have hcs : (Value.agg ⟨cs⟩).cells.toList = cs := rfl
  rw [hcs] at hlen hfl
  rw [ct] at hlen
  match cs, hlen with
  | [v0, v1, v2, v3], _ =>
    obtain ⟨y0, h0⟩ := hfl 0 _ rfl
    obtain ⟨y1, h1⟩ := hfl 1 _ rfl
    obtain ⟨y2, h2⟩ := hfl 2 _ rfl
    obtain ⟨y3, h3⟩ := hfl 3 _ rfl
    simp only [ci, cs1, cl] at h0 h1 h2 h3
    obtain ⟨s0, e0, _, ws⟩ := DataW.trod_string hs h0
    obtain ⟨n1, e1, _, w1⟩ := DataW.trod_int hi h1
    obtain ⟨n2, e2, _, w2⟩ := DataW.trod_int hi h2
    obtain ⟨A, c, q, e3, hr, hc, hm, hG⟩ := trod_structs (α := Msg × Value) (fun p => [i64 p.1.uid, i64 p.1.flags, i64 p.1.date, p.2]) (MsgG W) hl cm (by omega) (fun n cs y ht => trod_msg hum hi hb hu8 ci cb cu cm ht) h3
    simp at e0 e1 e2 e3
    subst e0; subst e1; subst e2; subst e3
    refine ⟨⟨s0, n1, n2, q.map Prod.fst⟩, ⟨A, c, q, by simp, rfl, by simpa using hc, hr, fun _ _ _ h => h, fun p hp => (hG p hp).1⟩, ws, i64_wf w1, i64_wf w2, by simpa using Nat.le_trans hc hm, fun m hm' => ?_⟩
    obtain ⟨p, hp, rfl⟩ := List.mem_map.1 hm'
    exact (hG p hp).2
end
end Go.Proofs.YtindfpaahlijeaaDoor
