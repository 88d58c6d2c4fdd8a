/-
  The frame of a law's statement: whatever reads as its arguments read, the call answers true and leaves all that was there as it was. What is to be known of arguments. By the session itself.
-/
import Derived.Test.YtindfpaahlijeaaDoorHp
import Derived.ProofKit
import Derived.Deep.Slices
import Derived.SizedLaws
import Derived.ChangeMaps5
namespace Go.Vc
set_option linter.unusedSimpArgs false
set_option linter.unusedVariables false
open Go.Deep Go.ChangeShapes Go.WideShapes Go.ChangeAt Go.RowKit Go.ChangeMaps

theorem Nw.below {W W' : World} (h : Nw W W') : Below W.heap.size W W' := ⟨h.os, h.tape, h.output, h.size, fun k hk => h.block k hk fun h => h⟩

theorem trodAll_below {H : Type} {enc : TypeId × Value → H} {P : Program} (hl : laidOutB P = true) {W W' : World} (hb : Below W.heap.size W W') {sp : Nat → Bool} : ∀ {ts : List TypeId} {vs : List Value} {ds : List (DataW H)} {ps : List MemPlace},
    ts.all (fun t => P.readableRec t && decide (t < P.types.size)) = true → DataW.TrodAll enc P W 0 (fun _ => true) true ts vs ds ps → (∀ x ∈ ps, x.block < W.heap.size) → (∀ x ∈ ps, sp x.block = true) → DataW.TrodAll enc P W' 0 sp true ts vs ds ps
  | [], [], [], _, _, h, _, _ => h
  | t :: ts, _ :: _, _ :: _, _, hr, ⟨p, q, h1, h2, e⟩, hlt, hs => by
    simp only [List.all_cons, Bool.and_eq_true, decide_eq_true_eq] at hr
    exact ⟨p, q, WideElems.Trod_stays hl hr.1.1 hr.1.2 h1 (fun x hx => hb.same (hlt x (by rw [e]; exact List.mem_append_left _ hx))) (fun x hx => hs x (by rw [e]; exact List.mem_append_left _ hx)),
      trodAll_below hl hb hr.2 h2 (fun x hx => hlt x (by rw [e]; exact List.mem_append_right _ hx)) (fun x hx => hs x (by rw [e]; exact List.mem_append_right _ hx)), e⟩

/-- THE FRAME. -/
theorem law_row {C : Checked} {os : Os} {f : FuncId} {fn : Func} {s : ChangeSpec} {H : Type} {enc : TypeId × Value → H} {t : TypeId}
    (own : ownKnob C.prog.godebug = none) (started : os.Started) (noInit : C.prog.inits.idxOf? f = none) (hfn : C.prog.funcs[f]? = some fn)
    (witness : ∃ (w : World) (tape : Tape) (i : Input), w.os = os ∧ (w.forCall tape i).Shaped C.prog ∧ i.vars = [] ∧ Input.okWide C.prog (w.forCall tape i) .any w.heap.size f i ∧
      s.pre6 enc C.prog fn [] false (w.forCall tape i).memory i.args ∧ ({} : Assume).holds C.prog (lone (Frame.enter C.prog f i.args .normal) [] (w.forCall tape i)))
    (hv : s.vars = []) (hl : laidOutB C.prog = true) (hr : fn.params.toList.all (fun t => C.prog.readableRec t && decide (t < C.prog.types.size)) = true)
    (hrt : fn.resultTypes = #[t]) (ht : C.prog.underlying t = some .bool)
    (hs : ∀ ds : List (DataW H), ds.length = fn.params.size → s.fn H ds = { results := [.lit (.bool true)], args := ds })
    (walk : ∀ (W : World) (args : Array Value) (ds : List (DataW H)) (ps : List MemPlace), DataW.TrodAll enc C.prog W 0 (fun _ => true) true fn.params.toList args.toList ds ps →
      (∀ (j : Nat) t v, fn.params[j]? = some t → args[j]? = some v → ∃ base, Value.okWide C.prog W .any base t v) → Cal C.prog f args W fun v W' => v = .bool true ∧ Nw W W') :
    ReturnsInHanded {} C os f .any (s.pre6 enc C.prog fn [] false) (s.post enc C.prog fn false true false false) := by
  refine returnsInHanded_of_change own started noInit hfn witness ?_
  intro W base args ds gs before hval hW _ _
  have hW' := hW
  obtain ⟨p, q, hA, hV, rfl, hfz, hnd⟩ := hW
  rw [hv] at hV
  obtain ⟨rfl, rfl⟩ := trodVars_none hV
  refine Calls.mono (walk W args ds p hA fun j t v h1 h2 => ⟨base, hval j t v h1 h2⟩) fun e W' ⟨v, he, hv', hk⟩ => ?_
  subst he; subst hv'
  have hlen : ds.length = fn.params.size := by
    have : ∀ {ts : List TypeId} {vs : List Value} {ds : List (DataW H)} {ps : List MemPlace}, DataW.TrodAll enc C.prog W 0 (fun _ => true) true ts vs ds ps → ds.length = ts.length := by
      intro ts
      induction ts with
      | nil => intro vs ds ps h; obtain ⟨_, rfl, _⟩ := trodAll_nil h; rfl
      | cons t ts ih => intro vs ds ps h; obtain ⟨_, _, _, _, _, _, rfl, rfl, _, _, h2⟩ := trodAll_cons h; simp [ih h2]
    simpa using this hA
  have e1 : s.fn H (ds ++ []) = { results := [.lit (.bool true)], args := ds } := by rw [List.append_nil]; exact hs ds hlen
  have hlt : ∀ x ∈ p, x.block < W.heap.size := fun x hx => hW'.lt x (by simpa using hx)
  refine ⟨_, rfl, ds, [], p ++ [], [], p, [], hW', ?_, ?_, ?_, World.keptBut_mono (fun x hx => ⟨hx, ?_⟩) (hk.below.frame (· ∈ p ++ [])), fun h => by cases h⟩
  · rw [e1, hrt]
    exact trodAll_mk1 (shut_bool ht _)
  · rw [e1]
    exact trodAll_below hl hk.below hr hA hlt fun x hx => by simpa using hlt x hx
  · rw [e1, hv]
    rfl
  · exact .inr (.inl (by simpa using hx))

/-- THE FRAME, the arguments' sizes at hand. -/
theorem law_row_sized {C : Checked} {os : Os} {f : FuncId} {fn : Func} {s : ChangeSpec} {H : Type} {enc : TypeId × Value → H} {t : TypeId}
    (own : ownKnob C.prog.godebug = none) (started : os.Started) (noInit : C.prog.inits.idxOf? f = none) (hfn : C.prog.funcs[f]? = some fn)
    (witness : ∃ (w : World) (tape : Tape) (i : Input), w.os = os ∧ (w.forCall tape i).Shaped C.prog ∧ i.vars = [] ∧ Input.okWide C.prog (w.forCall tape i) .any w.heap.size f i ∧
      s.pre6 enc C.prog fn [] false (w.forCall tape i).memory i.args ∧ ({} : Assume).holds C.prog (lone (Frame.enter C.prog f i.args .normal) [] (w.forCall tape i)))
    (hv : s.vars = []) (hl : laidOutB C.prog = true) (hr : fn.params.toList.all (fun t => C.prog.readableRec t && decide (t < C.prog.types.size)) = true)
    (hrt : fn.resultTypes = #[t]) (ht : C.prog.underlying t = some .bool)
    (hs : ∀ ds : List (DataW H), ds.length = fn.params.size → s.fn H ds = { results := [.lit (.bool true)], args := ds })
    (walk : ∀ (W : World) (args : Array Value) (ds : List (DataW H)) (ps : List MemPlace), DataW.TrodAll enc C.prog W 0 (fun _ => true) true fn.params.toList args.toList ds ps →
      (∀ (j : Nat) t v, fn.params[j]? = some t → args[j]? = some v → ∃ base, Value.okWide C.prog W .any base t v) → (DataW.weightsEach C.prog fn.params.toList ds).all (· ≤ reachBytes) = true → Cal C.prog f args W fun v W' => v = .bool true ∧ Nw W W') :
    ReturnsInHanded {} C os f .any (s.pre6 enc C.prog fn [] false) (s.post enc C.prog fn false true false false) := by
  refine returnsInHanded_of_change_sized own started noInit hfn witness ?_
  intro W base args ds gs before hval hW _ hz _
  have hW' := hW
  obtain ⟨p, q, hA, hV, rfl, hfz, hnd⟩ := hW
  rw [hv] at hV
  obtain ⟨rfl, rfl⟩ := trodVars_none hV
  refine Calls.mono (walk W args ds p hA (fun j t v h1 h2 => ⟨base, hval j t v h1 h2⟩) (by simpa [ChangeSpec.plain, DataSpec.varTypes, hv] using hz)) fun e W' ⟨v, he, hv', hk⟩ => ?_
  subst he; subst hv'
  have hlen : ds.length = fn.params.size := by
    have : ∀ {ts : List TypeId} {vs : List Value} {ds : List (DataW H)} {ps : List MemPlace}, DataW.TrodAll enc C.prog W 0 (fun _ => true) true ts vs ds ps → ds.length = ts.length := by
      intro ts
      induction ts with
      | nil => intro vs ds ps h; obtain ⟨_, rfl, _⟩ := trodAll_nil h; rfl
      | cons t ts ih => intro vs ds ps h; obtain ⟨_, _, _, _, _, _, rfl, rfl, _, _, h2⟩ := trodAll_cons h; simp [ih h2]
    simpa using this hA
  have e1 : s.fn H (ds ++ []) = { results := [.lit (.bool true)], args := ds } := by rw [List.append_nil]; exact hs ds hlen
  have hlt : ∀ x ∈ p, x.block < W.heap.size := fun x hx => hW'.lt x (by simpa using hx)
  refine ⟨_, rfl, ds, [], p ++ [], [], p, [], hW', ?_, ?_, ?_, World.keptBut_mono (fun x hx => ⟨hx, ?_⟩) (hk.below.frame (· ∈ p ++ [])), fun h => by cases h⟩
  · rw [e1, hrt]
    exact trodAll_mk1 (shut_bool ht _)
  · rw [e1]
    exact trodAll_below hl hk.below hr hA hlt fun x hx => by simpa using hlt x hx
  · rw [e1, hv]
    rfl
  · exact .inr (.inl (by simpa using hx))

theorem sized_len {H : Type} {enc : TypeId × Value → H} {P : Program} {W : World} {base : Nat} {spare : Nat → Bool} {held : Bool} {ts : List TypeId} {ds : List (DataW H)} {j : Nat} {t e : TypeId} {d : DataW H} {A : Option Addr} {n c : Nat} {ps : List MemPlace}
    (hz : (DataW.weightsEach P ts ds).all (· ≤ reachBytes) = true) (ht : P.underlying t = some (.slice e)) (hts : ts[j]? = some t) (hds : ds[j]? = some d) (h : DataW.Trod enc P W base spare held t (.slice A n c) d ps) : n * P.bytesOf e ≤ reachBytes := by
  obtain ⟨fuel, hf⟩ := h
  rcases DataW.trod_slice ht hf with ⟨e1, _⟩ | ⟨a, len, cap, elems, rest, n', _, e1, e2, _, _, _, hlen, _⟩
  · simp only [Value.cells, List.cons.injEq, and_true] at e1
    cases e1
    simp
  · simp only [Value.cells, List.cons.injEq, and_true] at e1
    cases e1
    cases e2
    have := sized_slice hz hts hds ht
    rw [List.length_map, hlen] at this
    exact Nat.le_trans (Nat.mul_le_mul_right _ (Nat.le_add_right _ _)) this
/-! ### What arguments are -/
section
variable {H : Type} {enc : TypeId × Value → H} {P : Program} {W : World} {base : Nat} {spare : Nat → Bool} {held : Bool}
theorem rd_of_cells {a : Addr} {xs : List Value} (hx : ∀ i u, xs[i]? = some u → W.cell? (a.add i) = some u) : Rd W (some a) xs := by
  intro j u hj
  obtain ⟨b, o, s⟩ := a
  have hlt : j < xs.length := (List.getElem?_eq_some_iff.1 hj).1
  have h0 := hx 0 xs[0] (List.getElem?_eq_getElem (by omega))
  cases s with
  | some s =>
    simp [World.cell?, Addr.add] at h0
    split at h0 <;> cases h0
  | none => exact ⟨b, o, rfl, by rw [← Addr.add_lit]; exact hx j u hj⟩

/-- A row of integers that came in, up to its length. -/
theorem trod_nums {k : IntKind} {t e : TypeId} {fuel : Nat} {cs : List Value} {x : DataW H × List MemPlace} (ht : P.underlying t = some (.slice e)) (he : P.underlying e = some (.int k)) (hc : P.cellsOf e = 1)
    (h : DataW.trod enc P W base spare held fuel t cs = some x) : ∃ (A : Option Addr) (c : Nat) (zs : List Int), cs = [.slice A zs.length c] ∧ Rd W A (zs.map fun z => .int k z) ∧ zs.length ≤ c ∧ c ≤ maxLen ∧ ∀ z ∈ zs, (Lit.int k z).wf = true := by
  rcases open_ints ht he hc h with ⟨rfl, _⟩ | ⟨a, len, cap, zs, rfl, _, h1, h2, h3, _, h4, h5⟩
  · exact ⟨none, 0, [], rfl, Rd.nil _ _, Nat.le_refl _, Nat.zero_le _, fun z h => by cases h⟩
  · have hlen : len ≤ zs.length := by rw [h3]; split <;> omega
    refine ⟨some a, cap, zs.take len, by rw [List.length_take, Nat.min_eq_left hlen], rd_of_cells fun i u hi => ?_, by rw [List.length_take]; omega, h2, fun z hz => h5 z (List.mem_of_mem_take hz)⟩
    rw [List.getElem?_map, List.getElem?_take] at hi
    split at hi
    · rename_i hil
      rw [List.getElem?_eq_getElem (by omega)] at hi
      simp only [Option.map_some, Option.some.injEq] at hi
      subst hi
      rw [h4 i (by omega)]
      simp [List.getD, List.getElem?_eq_getElem (show i < zs.length by omega)]
    · cases hi
theorem trod_bytes {t e : TypeId} {fuel : Nat} {cs : List Value} {x : DataW H × List MemPlace} (ht : P.underlying t = some (.slice e)) (he : P.underlying e = some (.int .u8)) (hc : P.cellsOf e = 1)
    (h : DataW.trod enc P W base spare held fuel t cs = some x) : ∃ (A : Option Addr) (c : Nat) (xs : List UInt8), cs = [.slice A xs.length c] ∧ Rd W A (xs.map u8) ∧ xs.length ≤ c ∧ c ≤ maxLen := by
  obtain ⟨A, c, zs, rfl, h1, h2, h3, h4⟩ := trod_nums ht he hc h
  refine ⟨A, c, zs.map fun z => UInt8.ofNat z.toNat, by rw [List.length_map], ?_, by rwa [List.length_map], h3⟩
  have e : (zs.map fun z => UInt8.ofNat z.toNat).map u8 = zs.map fun z => .int .u8 z := by
    rw [List.map_map]
    refine List.map_congr_left fun z hz => ?_
    have := h4 z hz
    simp [Lit.wf, IntKind.min, IntKind.max, IntKind.signed, IntKind.bits] at this
    simp only [Function.comp, Value.int.injEq, true_and, UInt8.toNat_ofNat']
    omega
  rw [e]
  exact h1
theorem i64_wf {z : Int} (h : (Lit.int .i64 z).wf = true) : -9223372036854775808 ≤ z ∧ z ≤ 9223372036854775807 := by
  simp [Lit.wf, IntKind.min, IntKind.max, IntKind.signed, IntKind.bits] at h
  exact h
theorem u8_wf {z : Int} (h : (Lit.int .u8 z).wf = true) : 0 ≤ z ∧ z ≤ 255 := by
  simp [Lit.wf, IntKind.min, IntKind.max, IntKind.signed, IntKind.bits] at h
  exact h
theorem trod_rows {t e q : TypeId} {fuel : Nat} {cs : List Value} {x : DataW H × List MemPlace} (ht : P.underlying t = some (.slice e)) (he : P.underlying e = some (.slice q)) (hq : P.underlying q = some (.int .u8)) (ce : P.cellsOf e = 1) (cq : P.cellsOf q = 1)
    (h : DataW.trod enc P W base spare held fuel t cs = some x) : ∃ (A : Option Addr) (c : Nat) (ps : List (List UInt8)), cs = [.slice A ps.length c] ∧ Brs W A ps (fun _ => False) ∧ ps.length ≤ c ∧ c ≤ maxLen ∧ ∀ p ∈ ps, p.length ≤ maxLen := by
  rcases open_slice ht h with ⟨rfl, _⟩ | ⟨a, len, cap, m, n, D, Pl, rfl, _, h1, h2, h3, _, h4⟩
  · exact ⟨none, 0, [], rfl, ⟨[], rfl, Rd.nil _ _, fun _ _ _ h => h, fun i h => by cases h⟩, Nat.le_refl _, Nat.zero_le _, fun z h => by cases h⟩
  · have hlen : len ≤ m := by rw [h3]; split <;> omega
    have each : ∀ i, i < len → ∃ (r : Option Addr × Nat × List UInt8), W.cell? (a.add i) = some (.slice r.1 r.2.2.length r.2.1) ∧ Rd W r.1 (r.2.2.map u8) ∧ r.2.2.length ≤ r.2.1 ∧ r.2.1 ≤ maxLen := fun i hi => by
      obtain ⟨cs', hc', ht'⟩ := h4 i (by omega)
      obtain ⟨A, c, xs, rfl, g1, g2, g3⟩ := trod_bytes he hq cq ht'
      rw [ce, Nat.mul_one] at hc'
      exact ⟨(A, c, xs), cell_of_cells?_one hc', g1, g2, g3⟩
    let R : Nat → Option Addr × Nat × List UInt8 := fun i => if hi : i < len then (each i hi).choose else (none, 0, [])
    have hR : ∀ i, i < len → W.cell? (a.add i) = some (.slice (R i).1 (R i).2.2.length (R i).2.1) ∧ Rd W (R i).1 ((R i).2.2.map u8) ∧ (R i).2.2.length ≤ (R i).2.1 ∧ (R i).2.1 ≤ maxLen := fun i hi => by
      have e : R i = (each i hi).choose := dif_pos hi
      rw [e]
      exact (each i hi).choose_spec
    refine ⟨some a, cap, (List.range len).map fun i => (R i).2.2, by simp, ⟨(List.range len).map fun i => .slice (R i).1 (R i).2.2.length (R i).2.1, by simp, rd_of_cells fun i u hi => ?_, fun _ _ _ h => h, fun i hi => ?_⟩, by simpa using h1, h2, fun p hp => ?_⟩
    · have hil : i < len := by simpa using (List.getElem?_eq_some_iff.1 hi).1
      rw [List.getElem?_map, List.getElem?_range hil] at hi
      simp only [Option.map_some, Option.some.injEq] at hi
      subst hi
      exact (hR i hil).1
    · have hil : i < len := by simpa using hi
      obtain ⟨_, g1, g2, _⟩ := hR i hil
      exact ⟨(R i).1, (R i).2.1, by simp [hil], by simpa using g1, fun _ _ _ h => h, by simpa using g2⟩
    · simp only [List.mem_map, List.mem_range] at hp
      obtain ⟨i, hil, rfl⟩ := hp
      have := hR i hil
      omega

/-- No slice, no text in it is longer than an address reaches. -/
def Sz (P : Program) (t : TypeId) (d : DataW H) : Prop := ∀ n ∈ d.weights P t, n ≤ reachBytes
theorem sz_arg {ts : List TypeId} {ds : List (DataW H)} {j : Nat} {t : TypeId} {d : DataW H} (hz : (DataW.weightsEach P ts ds).all (· ≤ reachBytes) = true) (hts : ts[j]? = some t) (hds : ds[j]? = some d) : Sz P t d := fun n hn => by
  have := List.all_eq_true.1 hz n (DataW.weights_mem_each hts hds n hn)
  simpa using this
theorem weightsAll_mem {e : TypeId} : ∀ {l : List (DataW H)} {d : DataW H}, d ∈ l → ∀ n ∈ d.weights P e, n ∈ DataW.weightsAll P e l
  | [], d, h, _, _ => by cases h
  | x :: l, d, h, n, hn => by
    rw [DataW.weightsAll]
    rcases List.mem_cons.1 h with rfl | h
    · exact List.mem_append_left _ hn
    · exact List.mem_append_right _ (weightsAll_mem h n hn)
theorem sz_elem {t e : TypeId} {elems rest : List (DataW H)} (h : Sz P t (.slice elems rest)) (ht : P.underlying t = some (.slice e)) {d : DataW H} (hd : d ∈ elems) : Sz P e d := fun n hn => by
  refine h n ?_
  rw [DataW.weights]
  simp only [ht]
  exact List.mem_cons_of_mem _ (List.mem_append_left _ (weightsAll_mem hd n hn))
theorem sz_len {fuel : Nat} {t e : TypeId} {A : Option Addr} {n c : Nat} {x : DataW H × List MemPlace} (h : DataW.trod enc P W base spare held fuel t [.slice A n c] = some x) (hz : Sz P t x.1) (ht : P.underlying t = some (.slice e)) : n * P.bytesOf e ≤ reachBytes := by
  rcases DataW.trod_slice ht h with ⟨e1, _⟩ | ⟨a, len, cap, elems, rest, n', _, e1, rfl, _, _, _, hlen, _⟩
  · simp only [List.cons.injEq, and_true] at e1
    cases e1
    simp
  · simp only [List.cons.injEq, and_true] at e1
    cases e1
    have := hz ((List.map (·.1) elems).length * P.bytesOf e + rest.length * P.bytesOf e) (by
      rw [DataW.weights]
      simp only [ht]
      simp [Nat.add_mul])
    rw [List.length_map, hlen] at this
    omega
theorem trod_rows_z {t e q : TypeId} {fuel : Nat} {cs : List Value} {x : DataW H × List MemPlace} (ht : P.underlying t = some (.slice e)) (he : P.underlying e = some (.slice q)) (hq : P.underlying q = some (.int .u8)) (ce : P.cellsOf e = 1) (cq : P.cellsOf q = 1) (bq : P.bytesOf q = 1) (hz : Sz P t x.1)
    (h : DataW.trod enc P W base spare held fuel t cs = some x) : ∃ (A : Option Addr) (c : Nat) (ps : List (List UInt8)), cs = [.slice A ps.length c] ∧ Brs W A ps (fun _ => False) ∧ ps.length ≤ c ∧ c ≤ maxLen ∧ ∀ p ∈ ps, p.length ≤ reachBytes := by
  rcases open_slice ht h with ⟨rfl, _⟩ | ⟨a, len, cap, m, n, D, Pl, rfl, _, h1, h2, h3, rfl, h4⟩
  · exact ⟨none, 0, [], rfl, ⟨[], rfl, Rd.nil _ _, fun _ _ _ h => h, fun i h => by cases h⟩, Nat.le_refl _, Nat.zero_le _, fun z h => by cases h⟩
  · have hlen : len ≤ m := by rw [h3]; split <;> omega
    have each : ∀ i, i < len → ∃ (r : Option Addr × Nat × List UInt8), W.cell? (a.add i) = some (.slice r.1 r.2.2.length r.2.1) ∧ Rd W r.1 (r.2.2.map u8) ∧ r.2.2.length ≤ r.2.1 ∧ r.2.2.length ≤ reachBytes := fun i hi => by
      obtain ⟨cs', hc', ht'⟩ := h4 i (by omega)
      obtain ⟨A, c, xs, rfl, g1, g2, g3⟩ := trod_bytes he hq cq ht'
      have hzi := sz_elem hz ht (d := D i) (List.mem_map.2 ⟨i, by simpa using hi, rfl⟩)
      have hl := sz_len ht' hzi he
      rw [bq, Nat.mul_one] at hl
      rw [ce, Nat.mul_one] at hc'
      exact ⟨(A, c, xs), cell_of_cells?_one hc', g1, g2, hl⟩
    let R : Nat → Option Addr × Nat × List UInt8 := fun i => if hi : i < len then (each i hi).choose else (none, 0, [])
    have hR : ∀ i, i < len → W.cell? (a.add i) = some (.slice (R i).1 (R i).2.2.length (R i).2.1) ∧ Rd W (R i).1 ((R i).2.2.map u8) ∧ (R i).2.2.length ≤ (R i).2.1 ∧ (R i).2.2.length ≤ reachBytes := fun i hi => by
      have e : R i = (each i hi).choose := dif_pos hi
      rw [e]
      exact (each i hi).choose_spec
    refine ⟨some a, cap, (List.range len).map fun i => (R i).2.2, by simp, ⟨(List.range len).map fun i => .slice (R i).1 (R i).2.2.length (R i).2.1, by simp, rd_of_cells fun i u hi => ?_, fun _ _ _ h => h, fun i hi => ?_⟩, by simpa using h1, h2, fun p hp => ?_⟩
    · have hil : i < len := by simpa using (List.getElem?_eq_some_iff.1 hi).1
      rw [List.getElem?_map, List.getElem?_range hil] at hi
      simp only [Option.map_some, Option.some.injEq] at hi
      subst hi
      exact (hR i hil).1
    · have hil : i < len := by simpa using hi
      obtain ⟨_, g1, g2, _⟩ := hR i hil
      exact ⟨(R i).1, (R i).2.1, by simp [hil], by simpa using g1, fun _ _ _ h => h, by simpa using g2⟩
    · simp only [List.mem_map, List.mem_range] at hp
      obtain ⟨i, hil, rfl⟩ := hp
      exact (hR i hil).2.2.2
theorem arg_rows_z {r : Reach} {ts : List TypeId} {ds : List (DataW H)} {j : Nat} {t e q : TypeId} {v : Value} {d : DataW H} {ps : List MemPlace} (hz : (DataW.weightsEach P ts ds).all (· ≤ reachBytes) = true) (hts : ts[j]? = some t) (hds : ds[j]? = some d)
    (ht : P.underlying t = some (.slice e)) (he : P.underlying e = some (.slice q)) (hq : P.underlying q = some (.int .u8)) (ce : P.cellsOf e = 1) (cq : P.cellsOf q = 1) (bq : P.bytesOf q = 1) (hval : ∃ b0, Value.okWide P W r b0 t v)
    (h : DataW.Trod enc P W base spare held t v d ps) : ∃ (A : Option Addr) (c : Nat) (ps : List (List UInt8)), v = .slice A ps.length c ∧ Brs W A ps (fun _ => False) ∧ ps.length ≤ c ∧ c ≤ maxLen ∧ ∀ p ∈ ps, p.length ≤ reachBytes := by
  obtain ⟨_, hval⟩ := hval
  obtain ⟨A, n, c, rfl⟩ := okWide_slice ht hval
  obtain ⟨fuel, hf⟩ := h
  obtain ⟨A', c', xs, e, h1, h2, h3⟩ := trod_rows_z ht he hq ce cq bq (sz_arg hz hts hds) hf
  simp only [Value.cells, List.cons.injEq, and_true] at e
  exact ⟨A', c', xs, e, h1, h2, h3⟩

/-! The same of an argument. -/
theorem arg_bytes {r : Reach} {t e : TypeId} {v : Value} {d : DataW H} {ps : List MemPlace} (ht : P.underlying t = some (.slice e)) (he : P.underlying e = some (.int .u8)) (hc : P.cellsOf e = 1) (hval : ∃ b0, Value.okWide P W r b0 t v)
    (h : DataW.Trod enc P W base spare held t v d ps) : ∃ (A : Option Addr) (c : Nat) (xs : List UInt8), v = .slice A xs.length c ∧ Rd W A (xs.map u8) ∧ xs.length ≤ c ∧ c ≤ maxLen := by
  obtain ⟨_, hval⟩ := hval
  obtain ⟨A, n, c, rfl⟩ := okWide_slice ht hval
  obtain ⟨fuel, hf⟩ := h
  obtain ⟨A', c', xs, e, h1, h2, h3⟩ := trod_bytes ht he hc hf
  simp only [Value.cells, List.cons.injEq, and_true] at e
  exact ⟨A', c', xs, e, h1, h2, h3⟩
theorem arg_nums {k : IntKind} {r : Reach} {t e : TypeId} {v : Value} {d : DataW H} {ps : List MemPlace} (ht : P.underlying t = some (.slice e)) (he : P.underlying e = some (.int k)) (hc : P.cellsOf e = 1) (hval : ∃ b0, Value.okWide P W r b0 t v)
    (h : DataW.Trod enc P W base spare held t v d ps) : ∃ (A : Option Addr) (c : Nat) (zs : List Int), v = .slice A zs.length c ∧ Rd W A (zs.map fun z => .int k z) ∧ zs.length ≤ c ∧ c ≤ maxLen ∧ ∀ z ∈ zs, (Lit.int k z).wf = true := by
  obtain ⟨_, hval⟩ := hval
  obtain ⟨A, n, c, rfl⟩ := okWide_slice ht hval
  obtain ⟨fuel, hf⟩ := h
  obtain ⟨A', c', xs, e, h1, h2, h3⟩ := trod_nums ht he hc hf
  simp only [Value.cells, List.cons.injEq, and_true] at e
  exact ⟨A', c', xs, e, h1, h2, h3⟩
theorem arg_rows {r : Reach} {t e q : TypeId} {v : Value} {d : DataW H} {ps : List MemPlace} (ht : P.underlying t = some (.slice e)) (he : P.underlying e = some (.slice q)) (hq : P.underlying q = some (.int .u8)) (ce : P.cellsOf e = 1) (cq : P.cellsOf q = 1) (hval : ∃ b0, Value.okWide P W r b0 t v)
    (h : DataW.Trod enc P W base spare held t v d ps) : ∃ (A : Option Addr) (c : Nat) (ps : List (List UInt8)), v = .slice A ps.length c ∧ Brs W A ps (fun _ => False) ∧ ps.length ≤ c ∧ c ≤ maxLen ∧ ∀ p ∈ ps, p.length ≤ maxLen := by
  obtain ⟨_, hval⟩ := hval
  obtain ⟨A, n, c, rfl⟩ := okWide_slice ht hval
  obtain ⟨fuel, hf⟩ := h
  obtain ⟨A', c', xs, e, h1, h2, h3⟩ := trod_rows ht he hq ce cq hf
  simp only [Value.cells, List.cons.injEq, and_true] at e
  exact ⟨A', c', xs, e, h1, h2, h3⟩
theorem arg_int {k : IntKind} {r : Reach} {t : TypeId} {v : Value} {d : DataW H} {ps : List MemPlace} (ht : P.underlying t = some (.int k)) (hval : ∃ b0, Value.okWide P W r b0 t v) (h : DataW.Trod enc P W base spare held t v d ps) : ∃ z, v = .int k z ∧ (Lit.int k z).wf = true := by
  obtain ⟨_, hval⟩ := hval
  obtain ⟨z, rfl, _, _, hw⟩ := open_int ht hval h
  exact ⟨z, rfl, hw⟩
theorem arg_bool {r : Reach} {t : TypeId} {v : Value} {d : DataW H} {ps : List MemPlace} (ht : P.underlying t = some .bool) (hval : ∃ b0, Value.okWide P W r b0 t v) (h : DataW.Trod enc P W base spare held t v d ps) : ∃ b, v = .bool b := by
  obtain ⟨_, hval⟩ := hval
  obtain ⟨z, rfl, _⟩ := open_bool ht hval h
  exact ⟨z, rfl⟩
theorem arg_str {r : Reach} {t : TypeId} {v : Value} {d : DataW H} {ps : List MemPlace} (ht : P.underlying t = some .string) (hval : ∃ b0, Value.okWide P W r b0 t v) (h : DataW.Trod enc P W base spare held t v d ps) : ∃ s : ByteArray, v = .string s ∧ s.size ≤ maxLen := by
  obtain ⟨_, hval⟩ := hval
  obtain ⟨z, rfl, _, _, hs⟩ := open_string ht hval h
  exact ⟨z, rfl, hs⟩
theorem arg_str_z {r : Reach} {ts : List TypeId} {ds : List (DataW H)} {j : Nat} {t : TypeId} {v : Value} {d : DataW H} {ps : List MemPlace} (hz : (DataW.weightsEach P ts ds).all (· ≤ reachBytes) = true) (hts : ts[j]? = some t) (hds : ds[j]? = some d)
    (ht : P.underlying t = some .string) (hval : ∃ b0, Value.okWide P W r b0 t v) (h : DataW.Trod enc P W base spare held t v d ps) : ∃ s : ByteArray, v = .string s ∧ s.size ≤ reachBytes := by
  obtain ⟨_, hval⟩ := hval
  obtain ⟨z, rfl, rfl, _, hs⟩ := open_string ht hval h
  have := sized_string hz hts hds
  exact ⟨z, rfl, by simpa using this⟩
end
end Go.Vc
