/-
  Steps of a keep's script handed in. By the session itself.
-/
import Derived.Test.YthonmjgagblogaaUpt
namespace Go.Proofs.Ythonmjgagblogaa
set_option linter.unusedSimpArgs false
set_option linter.unusedVariables false
set_option maxRecDepth 100000
open Go.Vc Go.Deep Go.ChangeShapes Go.WideShapes Go.ChangeAt Go.RowKit Go.ChangeMaps
/-- A step: its kind, its number, a name, two rows of bytes, names (and the slices that they lie in). -/
structure Ks where
  kind : Int
  n : Int
  s : Nm
  a : List UInt8
  b : List UInt8
  t : List Nm
  va : Value
  vb : Value
  vt : Value
def ksc (s : Ks) : List Value := [i64 s.kind, i64 s.n, str s.s, s.va, s.vb, s.vt]
def KsG (W : World) (s : Ks) : Prop := (∃ A c, s.va = .slice A s.a.length c ∧ Rd W A (s.a.map u8) ∧ s.a.length ≤ c) ∧ (∃ A c, s.vb = .slice A s.b.length c ∧ Rd W A (s.b.map u8) ∧ s.b.length ≤ c) ∧ (∃ A c, s.vt = .slice A s.t.length c ∧ Rd W A (s.t.map fun s => str s)) ∧
  s.s.length ≤ 1048576 ∧ s.a.length ≤ 1048576 ∧ s.b.length ≤ 1048576 ∧ s.t.length ≤ 1048576 ∧ -9223372036854775808 ≤ s.n ∧ s.n ≤ 9223372036854775807
theorem ks_at {w : World} {A : Option Addr} {q : List Ks} (hr : Rd w A (q.flatMap ksc)) {i : Nat} (hi : i < q.length) :
    ∃ g o, A = some ⟨g, o, none⟩ ∧ w.cell? ⟨g, o + i * 6, none⟩ = some (i64 q[i].kind) ∧ w.cell? ⟨g, o + i * 6 + 1, none⟩ = some (i64 q[i].n) ∧ w.cell? ⟨g, o + i * 6 + 2, none⟩ = some (str q[i].s) ∧ w.cell? ⟨g, o + i * 6 + 3, none⟩ = some q[i].va ∧ w.cell? ⟨g, o + i * 6 + 4, none⟩ = some q[i].vb ∧ w.cell? ⟨g, o + i * 6 + 5, none⟩ = some q[i].vt := by
  have hat := flat_cat ksc 6 (fun _ => rfl) q i hi
  obtain ⟨g, o, rfl, e0⟩ := hr _ _ ((hat 0 (by omega)).trans rfl)
  obtain ⟨_, _, e, e1⟩ := hr _ _ ((hat 1 (by omega)).trans rfl)
  cases e
  obtain ⟨_, _, e, e2⟩ := hr _ _ ((hat 2 (by omega)).trans rfl)
  cases e
  obtain ⟨_, _, e, e3⟩ := hr _ _ ((hat 3 (by omega)).trans rfl)
  cases e
  obtain ⟨_, _, e, e4⟩ := hr _ _ ((hat 4 (by omega)).trans rfl)
  cases e
  obtain ⟨_, _, e, e5⟩ := hr _ _ ((hat 5 (by omega)).trans rfl)
  cases e
  exact ⟨g, o, rfl, e0, by rw [Nat.add_assoc]; exact e1, by rw [Nat.add_assoc]; exact e2, by rw [Nat.add_assoc]; exact e3, by rw [Nat.add_assoc]; exact e4, by rw [Nat.add_assoc]; exact e5⟩
section
variable {H : Type} {enc : TypeId × Value → H} {P : Program} {W : World} {base : Nat} {spare : Nat → Bool} {held : Bool}
theorem flat_one {α : Type} (f : α → Value) : ∀ l : List α, (l.flatMap fun s => [f s]) = l.map f
  | [] => rfl
  | a :: l => by rw [List.flatMap_cons, flat_one f l]; rfl
theorem trod_strs {t e : TypeId} {fuel : Nat} {cs : List Value} {x : DataW H × List MemPlace} (ht : P.underlying t = some (.slice e)) (he : P.underlying e = some .string) (ce : P.cellsOf e = 1) (h : DataW.trod enc P W base spare held fuel t cs = some x) :
    ∃ (A : Option Addr) (c : Nat) (l : List Nm), cs = [.slice A l.length c] ∧ Rd W A (l.map fun s => str s) ∧ l.length ≤ c ∧ c ≤ maxLen := by
  obtain ⟨A, c, l, e1, h1, h2, h3, _⟩ := trod_structs (fun s : Nm => [str s]) (fun _ => True) ht ce (by omega) (fun n cs y hy => by
    obtain ⟨s, rfl, _⟩ := DataW.trod_string he hy
    exact ⟨s.data.toList, by simp, rfl, trivial⟩) h
  rw [flat_one] at h1
  exact ⟨A, c, l, e1, h1, h2, h3⟩
theorem trod_kstep {t ti ts tb tl tu : TypeId} {fuel : Nat} {cs : List Value} {x : DataW H × List MemPlace} (hu : (P.underlying t).map flds = some [(ti, 0), (ti, 1), (ts, 2), (tb, 3), (tb, 4), (tl, 5)]) (hi : P.underlying ti = some (.int .i64)) (hs : P.underlying ts = some .string) (hb : P.underlying tb = some (.slice tu)) (hu8 : P.underlying tu = some (.int .u8)) (hl : P.underlying tl = some (.slice ts))
    (ci : P.cellsOf ti = 1) (cs' : P.cellsOf ts = 1) (cb : P.cellsOf tb = 1) (cl : P.cellsOf tl = 1) (cu : P.cellsOf tu = 1) (ct : P.cellsOf t = 6) (hz : Bk x.1) (h : DataW.trod enc P W base spare held fuel t cs = some x) : ∃ p : Ks, cs = ksc p ∧ (ksc p).length = 6 ∧ KsG W p := by
  obtain ⟨hlen, n, hf⟩ := trod_flds_b hu (by simp) hz h
  rw [ct] at hlen
  match cs, hlen with
  | [v0, v1, v2, v3, v4, v5], _ =>
    obtain ⟨y0, h0, _⟩ := hf 0 _ rfl
    obtain ⟨y1, h1, _⟩ := hf 1 _ rfl
    obtain ⟨y2, h2, s2⟩ := hf 2 _ rfl
    obtain ⟨y3, h3, s3⟩ := hf 3 _ rfl
    obtain ⟨y4, h4, s4⟩ := hf 4 _ rfl
    obtain ⟨y5, h5, s5⟩ := hf 5 _ rfl
    simp only [ci, cs', cb, cl] at h0 h1 h2 h3 h4 h5
    obtain ⟨n0, e0, _, w0⟩ := DataW.trod_int hi h0
    obtain ⟨n1, e1, _, w1⟩ := DataW.trod_int hi h1
    obtain ⟨s, e2, l2⟩ := bk_str hs s2 h2
    obtain ⟨A, c, a, e3, hr3, hc3, hm3⟩ := trod_bytes hb hu8 cu h3
    obtain ⟨B, d, b, e4, hr4, hc4, hm4⟩ := trod_bytes hb hu8 cu h4
    obtain ⟨C, g, l, e5, hr5, hc5, hm5⟩ := trod_strs hl hs cs' h5
    simp at e0 e1 e2 e3 e4 e5
    subst e0; subst e1; subst e2; subst e3; subst e4; subst e5
    have l3 := bk_len h3 s3 hb
    have l4 := bk_len h4 s4 hb
    have l5 := bk_len h5 s5 hl
    have w1 := i64_wf w1
    exact ⟨⟨n0, n1, s, a, b, l, .slice A a.length c, .slice B b.length d, .slice C l.length g⟩, rfl, rfl, ⟨A, c, rfl, hr3, hc3⟩, ⟨B, d, rfl, hr4, hc4⟩, ⟨C, g, rfl, hr5⟩, l2, l3, l4, l5, w1⟩
theorem arg_ksteps {r : Reach} {ds : List (DataW H)} {t e ti ts tb tl tu : TypeId} {v : Value} {d : DataW H} {ps : List MemPlace} (hz : Rows.uptoBulkAll ds ≤ 1048576) (hds : d ∈ ds)
    (ht : P.underlying t = some (.slice e)) (hu : (P.underlying e).map flds = some [(ti, 0), (ti, 1), (ts, 2), (tb, 3), (tb, 4), (tl, 5)]) (hi : P.underlying ti = some (.int .i64)) (hs : P.underlying ts = some .string) (hb : P.underlying tb = some (.slice tu)) (hu8 : P.underlying tu = some (.int .u8)) (hl : P.underlying tl = some (.slice ts))
    (ci : P.cellsOf ti = 1) (cs' : P.cellsOf ts = 1) (cb : P.cellsOf tb = 1) (cl : P.cellsOf tl = 1) (cu : P.cellsOf tu = 1) (ct : P.cellsOf e = 6) (hval : ∃ b0, Value.okWide P W r b0 t v) (h : DataW.Trod enc P W base spare held t v d ps) :
    ∃ A c, ∃ q : List Ks, v = .slice A q.length c ∧ Rd W A (q.flatMap ksc) ∧ q.length ≤ c ∧ c ≤ maxLen ∧ ∀ p ∈ q, KsG W p := by
  obtain ⟨_, hval⟩ := hval
  obtain ⟨A, n, c, rfl⟩ := okWide_slice ht hval
  obtain ⟨fuel, hf⟩ := h
  obtain ⟨A', c', xs, e, h1, h2, h3, h4⟩ := trod_structs_b ksc (KsG W) ht ct (by omega) (bk_arg hz hds) (fun n cs y hy ht => trod_kstep hu hi hs hb hu8 hl ci cs' cb cl cu ct hy ht) hf
  simp only [Value.cells, List.cons.injEq, and_true] at e
  exact ⟨A', c', xs, e, h1, h2, h3, h4⟩
end
end Go.Proofs.Ythonmjgagblogaa
