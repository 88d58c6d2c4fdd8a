/-
  Slices of structs handed in, with their sizes; the acts. By the session itself.
-/
import Derived.Test.YtindfpaahlijeaaDoorArh
namespace Go.Proofs.YtindfpaahlijeaaDoor
set_option linter.unusedSimpArgs false
set_option linter.unusedVariables false
set_option maxRecDepth 100000
open Go.Vc Go.Deep Go.ChangeShapes Go.WideShapes Go.ChangeAt Go.RowKit Go.ChangeMaps
/-- An act. -/
structure Ac where
  kind : Int
  flags : Int
  date : Int
  mode : Int
  uids : List Int
  body : List UInt8
def RdI (w : World) (v : Value) (l : List Int) : Prop := ∃ A c, v = .slice A l.length c ∧ Rd w A (l.map i64) ∧ l.length ≤ c
theorem RdI.nw {w w' : World} {v : Value} {l : List Int} (h : RdI w v l) (k : Nw w w') : RdI w' v l := by
  obtain ⟨A, c, rfl, hr, hc⟩ := h
  exact ⟨A, c, rfl, hr.nw k, hc⟩
abbrev AQ := List (Ac × Value × Value)
def acells (p : Ac × Value × Value) : List Value := [i64 p.1.kind, i64 p.1.flags, i64 p.1.date, i64 p.1.mode, p.2.1, p.2.2]
def aq (q : AQ) : List Value := q.flatMap acells
/-- An act as an argument has it. -/
def ActG (W : World) (p : Ac × Value × Value) : Prop := RdI W p.2.1 p.1.uids ∧ RdB W p.2.2 p.1.body (fun _ => False) ∧ p.1.uids.length ≤ 140737488355328 ∧ p.1.body.length ≤ 140737488355328 ∧ I64 p.1.kind ∧ I64 p.1.flags ∧ I64 p.1.date ∧ I64 p.1.mode
theorem ActG.nw {w w' : World} {p : Ac × Value × Value} (h : ActG w p) (k : Nw w w') : ActG w' p := ⟨h.1.nw k, h.2.1.nw k, h.2.2⟩
theorem aq_at : ∀ (q : AQ) (i : Nat) (h : i < q.length), ∀ j < 6, (aq q)[i * 6 + j]? = (acells q[i])[j]?
  | p :: q, 0, _, j, hj => by
    unfold aq
    rw [List.flatMap_cons, List.getElem?_append_left (by simp [acells]; omega), Nat.zero_mul, Nat.zero_add]
    rfl
  | p :: q, i + 1, h, j, hj => by
    have := aq_at q i (by simpa using h) j hj
    unfold aq at this ⊢
    rw [List.flatMap_cons, List.getElem?_append_right (by simp [acells]; omega)]
    rw [show (i + 1) * 6 + j - (acells p).length = i * 6 + j by simp [acells]; omega, this]
    rfl
theorem act_at {w : World} {A : Option Addr} {q : AQ} (hr : Rd w A (aq q)) {i : Nat} (hi : i < q.length) :
    ∃ g o, A = some ⟨g, o, none⟩ ∧ w.cell? ⟨g, o + i * 6, none⟩ = some (i64 q[i].1.kind) ∧ w.cell? ⟨g, o + i * 6 + 1, none⟩ = some (i64 q[i].1.flags) ∧ w.cell? ⟨g, o + i * 6 + 2, none⟩ = some (i64 q[i].1.date) ∧ w.cell? ⟨g, o + i * 6 + 3, none⟩ = some (i64 q[i].1.mode) ∧ w.cell? ⟨g, o + i * 6 + 4, none⟩ = some q[i].2.1 ∧ w.cell? ⟨g, o + i * 6 + 5, none⟩ = some q[i].2.2 := by
  obtain ⟨g, o, rfl, e0⟩ := hr _ _ ((aq_at q i hi 0 (by omega)).trans rfl)
  obtain ⟨_, _, e, e1⟩ := hr _ _ ((aq_at q i hi 1 (by omega)).trans rfl)
  cases e
  obtain ⟨_, _, e, e2⟩ := hr _ _ ((aq_at q i hi 2 (by omega)).trans rfl)
  cases e
  obtain ⟨_, _, e, e3⟩ := hr _ _ ((aq_at q i hi 3 (by omega)).trans rfl)
  cases e
  obtain ⟨_, _, e, e4⟩ := hr _ _ ((aq_at q i hi 4 (by omega)).trans rfl)
  cases e
  obtain ⟨_, _, e, e5⟩ := hr _ _ ((aq_at q i hi 5 (by omega)).trans rfl)
  cases e
  exact ⟨g, o, rfl, e0, by rw [Nat.add_assoc]; exact e1, by rw [Nat.add_assoc]; exact e2, by rw [Nat.add_assoc]; exact e3, by rw [Nat.add_assoc]; exact e4, by rw [Nat.add_assoc]; exact e5⟩
section
variable {H : Type} {enc : TypeId × Value → H} {P : Program} {W : World} {base : Nat} {spare : Nat → Bool} {held : Bool}
theorem trod_act {t ti tl tb tu : TypeId} {fuel : Nat} {cs : List Value} {x : DataW H × List MemPlace} (hu : (P.underlying t).map flds = some [(ti, 0), (ti, 1), (ti, 2), (ti, 3), (tl, 4), (tb, 5)]) (hi : P.underlying ti = some (.int .i64)) (hl : P.underlying tl = some (.slice ti)) (hb : P.underlying tb = some (.slice tu)) (hu8 : P.underlying tu = some (.int .u8))
    (ci : P.cellsOf ti = 1) (cl : P.cellsOf tl = 1) (cb : P.cellsOf tb = 1) (cu : P.cellsOf tu = 1) (ct : P.cellsOf t = 6) (bi : P.bytesOf ti = 8) (bu : P.bytesOf tu = 1) (hz : Sz P t x.1) (h : DataW.trod enc P W base spare held fuel t cs = some x) : ∃ p : Ac × Value × Value, cs = acells p ∧ (acells p).length = 6 ∧ ActG W p := by
  obtain ⟨hlen, n, hf⟩ := trod_flds_z hu (by simp) hz h
  rw [ct] at hlen
  match cs, hlen with
  | [v0, v1, v2, v3, v4, v5], _ =>
    obtain ⟨y0, h0, _⟩ := hf 0 _ rfl
    obtain ⟨y1, h1, _⟩ := hf 1 _ rfl
    obtain ⟨y2, h2, _⟩ := hf 2 _ rfl
    obtain ⟨y3, h3, _⟩ := hf 3 _ rfl
    obtain ⟨y4, h4, s4⟩ := hf 4 _ rfl
    obtain ⟨y5, h5, s5⟩ := hf 5 _ rfl
    simp only [ci, cl, cb] at h0 h1 h2 h3 h4 h5
    obtain ⟨n0, e0, _, w0⟩ := DataW.trod_int hi h0
    obtain ⟨n1, e1, _, w1⟩ := DataW.trod_int hi h1
    obtain ⟨n2, e2, _, w2⟩ := DataW.trod_int hi h2
    obtain ⟨n3, e3, _, w3⟩ := DataW.trod_int hi h3
    obtain ⟨A, c, zs, e4, hr4, hc4, hm4, _⟩ := trod_nums hl hi ci h4
    obtain ⟨B, d, xs, e5, hr5, hc5, hm5⟩ := trod_bytes hb hu8 cu h5
    simp at e0 e1 e2 e3 e4 e5
    subst e0; subst e1; subst e2; subst e3; subst e4; subst e5
    have l4 := sz_len h4 s4 hl
    have l5 := sz_len h5 s5 hb
    rw [bi] at l4
    rw [bu] at l5
    unfold reachBytes at l4 l5
    exact ⟨(⟨n0, n1, n2, n3, zs, xs⟩, .slice A zs.length c, .slice B xs.length d), rfl, rfl, ⟨A, c, rfl, hr4, hc4⟩, ⟨B, d, rfl, hr5, fun _ _ _ h => h, hc5⟩, by simp only; omega, by simp only; omega, i64_wf w0, i64_wf w1, i64_wf w2, i64_wf w3⟩
theorem arg_acts {r : Reach} {ts : List TypeId} {ds : List (DataW H)} {j : Nat} {t e ti tl tb tu : TypeId} {v : Value} {d : DataW H} {ps : List MemPlace} (hz : (DataW.weightsEach P ts ds).all (· ≤ reachBytes) = true) (hts : ts[j]? = some t) (hds : ds[j]? = some d)
    (ht : P.underlying t = some (.slice e)) (hu : (P.underlying e).map flds = some [(ti, 0), (ti, 1), (ti, 2), (ti, 3), (tl, 4), (tb, 5)]) (hi : P.underlying ti = some (.int .i64)) (hl : P.underlying tl = some (.slice ti)) (hb : P.underlying tb = some (.slice tu)) (hu8 : P.underlying tu = some (.int .u8))
    (ci : P.cellsOf ti = 1) (cl : P.cellsOf tl = 1) (cb : P.cellsOf tb = 1) (cu : P.cellsOf tu = 1) (ct : P.cellsOf e = 6) (bi : P.bytesOf ti = 8) (bu : P.bytesOf tu = 1) (hval : ∃ b0, Value.okWide P W r b0 t v) (h : DataW.Trod enc P W base spare held t v d ps) :
    ∃ A c, ∃ q : AQ, v = .slice A q.length c ∧ Rd W A (aq q) ∧ q.length ≤ c ∧ c ≤ maxLen ∧ ∀ p ∈ q, ActG W p := by
  obtain ⟨_, hval⟩ := hval
  obtain ⟨A, n, c, rfl⟩ := okWide_slice ht hval
  obtain ⟨fuel, hf⟩ := h
  obtain ⟨A', c', xs, e, h1, h2, h3, h4⟩ := trod_structs_z acells (ActG W) ht ct (by omega) (sz_arg hz hts hds) (fun n cs y hy ht => trod_act hu hi hl hb hu8 ci cl cb cu ct bi bu hy ht) hf
  simp only [Value.cells, List.cons.injEq, and_true] at e
  exact ⟨A', c', xs, e, h1, h2, h3, h4⟩
end
end Go.Proofs.YtindfpaahlijeaaDoor
