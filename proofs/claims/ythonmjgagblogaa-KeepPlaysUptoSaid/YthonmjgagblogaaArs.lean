/-
  Steps of a disk's script handed in. By the session itself.
-/
import Derived.Test.YthonmjgagblogaaArz
import Derived.Test.YthonmjgagblogaaDkY
namespace Go.Vc
set_option linter.unusedSimpArgs false
set_option linter.unusedVariables false
open Go.Deep Go.ChangeShapes Go.WideShapes Go.ChangeAt Go.RowKit Go.ChangeMaps
section
variable {H : Type} {enc : TypeId × Value → H} {P : Program} {W : World} {base : Nat} {spare : Nat → Bool} {held : Bool}
theorem sz_str {fuel : Nat} {t : TypeId} {cs : List Value} {x : DataW H × List MemPlace} (ht : P.underlying t = some .string) (hz : Sz P t x.1) (h : DataW.trod enc P W base spare held fuel t cs = some x) : ∃ s : List UInt8, cs = [.string ⟨s.toArray⟩] ∧ s.length ≤ reachBytes := by
  obtain ⟨s, rfl, rfl, _⟩ := DataW.trod_string ht h
  refine ⟨s.data.toList, by simp, ?_⟩
  exact hz s.data.toList.length (by rw [DataW.weights]; simp)
theorem flat_cat {α : Type} (cells : α → List Value) (K : Nat) (hc : ∀ a, (cells a).length = K) : ∀ (q : List α) (i : Nat) (h : i < q.length), ∀ j < K, (q.flatMap cells)[i * K + j]? = (cells q[i])[j]?
  | p :: q, 0, _, j, hj => by
    rw [List.flatMap_cons, List.getElem?_append_left (by rw [hc]; omega), Nat.zero_mul, Nat.zero_add]
    rfl
  | p :: q, i + 1, h, j, hj => by
    have := flat_cat cells K hc q i (by simpa using h) j hj
    rw [List.flatMap_cons, List.getElem?_append_right (by rw [hc, Nat.add_mul]; omega), hc]
    rw [show (i + 1) * K + j - K = i * K + j by rw [Nat.add_mul]; omega, this]
    rfl
end
end Go.Vc
namespace Go.Proofs.Ythonmjgagblogaa
set_option linter.unusedSimpArgs false
set_option linter.unusedVariables false
set_option maxRecDepth 100000
open Go.Vc Go.Deep Go.ChangeShapes Go.WideShapes Go.ChangeAt Go.RowKit Go.ChangeMaps
/-- A step: its kind, its number, two names, bytes (and the slice that they lie in). -/
structure Sp where
  kind : Int
  n : Int
  a : Nm
  b : Nm
  p : List UInt8
  v : Value
def spc (s : Sp) : List Value := [i64 s.kind, i64 s.n, str s.a, str s.b, s.v]
def SpG (W : World) (s : Sp) : Prop := (∃ A c, s.v = .slice A s.p.length c ∧ Rd W A (s.p.map u8) ∧ s.p.length ≤ c) ∧ s.a.length ≤ 140737488355328 ∧ s.b.length ≤ 140737488355328 ∧ s.p.length ≤ 140737488355328 ∧ -9223372036854775808 ≤ s.n ∧ s.n ≤ 9223372036854775807
theorem SpG.nw {w w' : World} {s : Sp} (h : SpG w s) (k : Nw w w') : SpG w' s := by
  obtain ⟨⟨A, c, e, hr, hc⟩, h2⟩ := h
  exact ⟨⟨A, c, e, hr.nw k, hc⟩, h2⟩
theorem sp_at_ {w : World} {A : Option Addr} {q : List Sp} (hr : Rd w A (q.flatMap spc)) {i : Nat} (hi : i < q.length) :
    ∃ g o, A = some ⟨g, o, none⟩ ∧ w.cell? ⟨g, o + i * 5, none⟩ = some (i64 q[i].kind) ∧ w.cell? ⟨g, o + i * 5 + 1, none⟩ = some (i64 q[i].n) ∧ w.cell? ⟨g, o + i * 5 + 2, none⟩ = some (str q[i].a) ∧ w.cell? ⟨g, o + i * 5 + 3, none⟩ = some (str q[i].b) ∧ w.cell? ⟨g, o + i * 5 + 4, none⟩ = some q[i].v := by
  have hat := flat_cat spc 5 (fun _ => rfl) q i hi
  obtain ⟨g, o, rfl, e0⟩ := hr _ _ ((hat 0 (by omega)).trans rfl)
  obtain ⟨_, _, e, e1⟩ := hr _ _ ((hat 1 (by omega)).trans rfl)
  cases e
  obtain ⟨_, _, e, e2⟩ := hr _ _ ((hat 2 (by omega)).trans rfl)
  cases e
  obtain ⟨_, _, e, e3⟩ := hr _ _ ((hat 3 (by omega)).trans rfl)
  cases e
  obtain ⟨_, _, e, e4⟩ := hr _ _ ((hat 4 (by omega)).trans rfl)
  cases e
  exact ⟨g, o, rfl, e0, by rw [Nat.add_assoc]; exact e1, by rw [Nat.add_assoc]; exact e2, by rw [Nat.add_assoc]; exact e3, by rw [Nat.add_assoc]; exact e4⟩
section
variable {H : Type} {enc : TypeId × Value → H} {P : Program} {W : World} {base : Nat} {spare : Nat → Bool} {held : Bool}
theorem trod_step {t ti ts tb tu : TypeId} {fuel : Nat} {cs : List Value} {x : DataW H × List MemPlace} (hu : (P.underlying t).map flds = some [(ti, 0), (ti, 1), (ts, 2), (ts, 3), (tb, 4)]) (hi : P.underlying ti = some (.int .i64)) (hs : P.underlying ts = some .string) (hb : P.underlying tb = some (.slice tu)) (hu8 : P.underlying tu = some (.int .u8))
    (ci : P.cellsOf ti = 1) (cs' : P.cellsOf ts = 1) (cb : P.cellsOf tb = 1) (cu : P.cellsOf tu = 1) (ct : P.cellsOf t = 5) (bu : P.bytesOf tu = 1) (hz : Sz P t x.1) (h : DataW.trod enc P W base spare held fuel t cs = some x) : ∃ p : Sp, cs = spc p ∧ (spc p).length = 5 ∧ SpG W p := by
  obtain ⟨hlen, n, hf⟩ := trod_flds_z hu (by simp) hz h
  rw [ct] at hlen
  match cs, hlen with
  | [v0, v1, v2, v3, v4], _ =>
    obtain ⟨y0, h0, _⟩ := hf 0 _ rfl
    obtain ⟨y1, h1, _⟩ := hf 1 _ rfl
    obtain ⟨y2, h2, s2⟩ := hf 2 _ rfl
    obtain ⟨y3, h3, s3⟩ := hf 3 _ rfl
    obtain ⟨y4, h4, s4⟩ := hf 4 _ rfl
    simp only [ci, cs', cb] at h0 h1 h2 h3 h4
    obtain ⟨n0, e0, _, w0⟩ := DataW.trod_int hi h0
    obtain ⟨n1, e1, _, w1⟩ := DataW.trod_int hi h1
    obtain ⟨a, e2, l2⟩ := sz_str hs s2 h2
    obtain ⟨b, e3, l3⟩ := sz_str hs s3 h3
    obtain ⟨B, d, xs, e4, hr4, hc4, hm4⟩ := trod_bytes hb hu8 cu h4
    simp at e0 e1 e2 e3 e4
    subst e0; subst e1; subst e2; subst e3; subst e4
    have l4 := sz_len h4 s4 hb
    rw [bu] at l4
    have w1 := i64_wf w1
    unfold reachBytes at l2 l3 l4
    exact ⟨⟨n0, n1, a, b, xs, .slice B xs.length d⟩, rfl, rfl, ⟨B, d, rfl, hr4, hc4⟩, by simp only; omega, by simp only; omega, by simp only; omega, w1⟩
theorem arg_steps {r : Reach} {tys : List TypeId} {ds : List (DataW H)} {j : Nat} {t e ti ts tb tu : TypeId} {v : Value} {d : DataW H} {ps : List MemPlace} (hz : (DataW.weightsEach P tys ds).all (· ≤ reachBytes) = true) (hts : tys[j]? = some t) (hds : ds[j]? = some d)
    (ht : P.underlying t = some (.slice e)) (hu : (P.underlying e).map flds = some [(ti, 0), (ti, 1), (ts, 2), (ts, 3), (tb, 4)]) (hi : P.underlying ti = some (.int .i64)) (hs : P.underlying ts = some .string) (hb : P.underlying tb = some (.slice tu)) (hu8 : P.underlying tu = some (.int .u8))
    (ci : P.cellsOf ti = 1) (cs' : P.cellsOf ts = 1) (cb : P.cellsOf tb = 1) (cu : P.cellsOf tu = 1) (ct : P.cellsOf e = 5) (bu : P.bytesOf tu = 1) (hval : ∃ b0, Value.okWide P W r b0 t v) (h : DataW.Trod enc P W base spare held t v d ps) :
    ∃ A c, ∃ q : List Sp, v = .slice A q.length c ∧ Rd W A (q.flatMap spc) ∧ q.length ≤ c ∧ c ≤ maxLen ∧ ∀ p ∈ q, SpG W p := by
  obtain ⟨_, hval⟩ := hval
  obtain ⟨A, n, c, rfl⟩ := okWide_slice ht hval
  obtain ⟨fuel, hf⟩ := h
  obtain ⟨A', c', xs, e, h1, h2, h3, h4⟩ := trod_structs_z spc (SpG W) ht ct (by omega) (sz_arg hz hts hds) (fun n cs y hy ht => trod_step hu hi hs hb hu8 ci cs' cb cu ct bu hy ht) hf
  simp only [Value.cells, List.cons.injEq, and_true] at e
  exact ⟨A', c', xs, e, h1, h2, h3, h4⟩
end
end Go.Proofs.Ythonmjgagblogaa
