/-
  Where what came in is of bulk at most 1048576: the frame of a law's statement; what is known of parts. By the session itself.
-/
import Derived.Test.YthonmjgagblogaaRows
import Derived.Test.YthonmjgagblogaaArs
import Derived.JoinedCond
namespace Go.Proofs.Ythonmjgagblogaa
set_option linter.unusedSimpArgs false
set_option linter.unusedVariables false
set_option maxRecDepth 100000
open Go.Vc Go.Deep Go.ChangeShapes Go.WideShapes Go.ChangeAt Go.RowKit Go.ChangeMaps
theorem law_row_upto {C : Checked} {os : Os} {f : FuncId} {fn : Func} {s : ChangeSpec} {H : Type} {enc : TypeId × Value → H} {t : TypeId} {F : Stop.Interp}
    (own : ownKnob C.prog.godebug = none) (started : os.Started) (noInit : C.prog.inits.idxOf? f = none) (hfn : C.prog.funcs[f]? = some fn)
    (witness : ∃ (w : World) (tape : Tape) (i : Input), w.os = os ∧ (w.forCall tape i).Shaped C.prog ∧ i.vars = [] ∧ Input.okWide C.prog (w.forCall tape i) .any w.heap.size f i ∧
      (Rows.OpenSpec.upto s).pre6 enc C.prog fn [] false (w.forCall tape i).memory i.args ∧ ({} : Assume).holds C.prog (lone (Frame.enter C.prog f i.args .normal) [] (w.forCall tape i)))
    (hv : s.vars = []) (hl : laidOutB C.prog = true) (hr : fn.params.toList.all (fun t => C.prog.readableRec t && decide (t < C.prog.types.size)) = true)
    (hrt : fn.resultTypes = #[t]) (ht : C.prog.underlying t = some .bool)
    (hs : ∀ ds : List (DataW H), ds.length = fn.params.size → s.fn H ds = { results := [.lit (.bool true)], args := ds })
    (walk : ∀ (W : World) (args : Array Value) (ds : List (DataW H)) (ps : List MemPlace), DataW.TrodAll enc C.prog W 0 (fun _ => true) true fn.params.toList args.toList ds ps →
      (∀ (j : Nat) t v, fn.params[j]? = some t → args[j]? = some v → ∃ base, Value.okWide C.prog W .any base t v) → Rows.uptoBulkAll ds ≤ 1048576 → Cal C.prog f args W fun v W' => v = .bool true ∧ Nw W W') :
    ReturnsInHanded {} C os f .any ((Rows.OpenSpec.upto s).pre6 enc C.prog fn [] false) (((Rows.OpenSpec.upto s).at F).post enc C.prog fn false true false false) := by
  refine returnsInHanded_of_cond (s := Rows.OpenSpec.upto s) (k := Rows.uptoSmall) rfl own started noInit hfn witness ?_
  intro W base args ds gs before hval hW _ hkk _
  have hW : DataW.Whole enc C.prog fn.params.toList s.vars false W args.toList ds gs before := hW
  show Calls C.prog f args W fun e W' => ∃ v, e = .returned v ∧ s.post enc C.prog fn false true false false W args v W'
  have hW' := hW
  obtain ⟨p, q, hA, hV, rfl, hfz, hnd⟩ := hW
  rw [hv] at hV
  obtain ⟨rfl, rfl⟩ := trodVars_none hV
  refine Calls.mono (walk W args ds p hA (fun j t v h1 h2 => ⟨base, hval j t v h1 h2⟩) (by have h : Rows.uptoBulkAll (ds ++ []) ≤ 1048576 := of_decide_eq_true hkk; rwa [List.append_nil] at h)) fun e W' ⟨v, he, hv', hk⟩ => ?_
  subst he; subst hv'
  have hlen : ds.length = fn.params.size := by
    have : ∀ {ts : List TypeId} {vs : List Value} {ds : List (DataW H)} {ps : List MemPlace}, DataW.TrodAll enc C.prog W 0 (fun _ => true) true ts vs ds ps → ds.length = ts.length := by
      intro ts
      induction ts with
      | nil => intro vs ds ps h; obtain ⟨_, rfl, _⟩ := trodAll_nil h; rfl
      | cons t ts ih => intro vs ds ps h; obtain ⟨_, _, _, _, _, _, rfl, rfl, _, _, h2⟩ := trodAll_cons h; simp [ih h2]
    simpa using this hA
  have e1 : s.fn H (ds ++ []) = { results := [.lit (.bool true)], args := ds } := by rw [List.append_nil]; exact hs ds hlen
  have hlt : ∀ x ∈ p, x.block < W.heap.size := fun x hx => hW'.lt x (by simpa using hx)
  refine ⟨_, rfl, ds, [], p ++ [], [], p, [], hW', ?_, ?_, ?_, World.keptBut_mono (fun x hx => ⟨hx, ?_⟩) (hk.below.frame (· ∈ p ++ [])), fun h => by cases h⟩
  · rw [e1, hrt]
    exact trodAll_mk1 (shut_bool ht _)
  · rw [e1]
    exact trodAll_below hl hk.below hr hA hlt fun x hx => by simpa using hlt x hx
  · rw [e1, hv]
    rfl
  · exact .inr (.inl (by simpa using hx))


/-- Of small bulk. -/
def Bk {H : Type} (d : DataW H) : Prop := Rows.uptoBulk d ≤ 1048576
theorem bulk_one {H : Type} (d : DataW H) : 1 ≤ Rows.uptoBulk d := by
  cases d with
  | lit l => cases l <;> simp [Rows.uptoBulk]
  | nil => simp [Rows.uptoBulk]
  | ptr d => simp [Rows.uptoBulk]
  | slice elems spare => simp [Rows.uptoBulk]
  | agg parts => simp [Rows.uptoBulk]
  | iface t d => simp [Rows.uptoBulk]
  | map entries => simp [Rows.uptoBulk]
  | held h => simp [Rows.uptoBulk]
theorem bulk_part {H : Type} {d : DataW H} : ∀ {l : List (DataW H)}, d ∈ l → Rows.uptoBulk d ≤ Rows.uptoBulkAll l
  | x :: r, h => by
    simp only [Rows.uptoBulkAll]
    rcases List.mem_cons.1 h with rfl | h
    · omega
    · have := bulk_part h
      omega
theorem bulk_len {H : Type} : ∀ (l : List (DataW H)), l.length ≤ Rows.uptoBulkAll l
  | [] => Nat.zero_le _
  | x :: r => by
    have h1 := bulk_one x
    have h2 := bulk_len r
    simp only [Rows.uptoBulkAll, List.length_cons]
    omega
theorem bk_arg {H : Type} {ds : List (DataW H)} {d : DataW H} (h : Rows.uptoBulkAll ds ≤ 1048576) (hd : d ∈ ds) : Bk d := Nat.le_trans (bulk_part hd) h
theorem bk_elem {H : Type} {elems rest : List (DataW H)} (h : Bk (.slice elems rest)) {d : DataW H} (hd : d ∈ elems) : Bk d := by
  unfold Bk at *
  have := bulk_part hd
  simp only [Rows.uptoBulk] at h
  omega
theorem bk_part {H : Type} {parts : List (DataW H)} (h : Bk (.agg parts)) {d : DataW H} (hd : d ∈ parts) : Bk d := by
  unfold Bk at *
  have := bulk_part hd
  simp only [Rows.uptoBulk] at h
  omega
section
variable {H : Type} {enc : TypeId × Value → H} {P : Program} {W : World} {base : Nat} {spare : Nat → Bool} {held : Bool}
theorem bk_len {fuel : Nat} {t e : TypeId} {A : Option Addr} {n c : Nat} {x : DataW H × List MemPlace} (h : DataW.trod enc P W base spare held fuel t [.slice A n c] = some x) (hz : Bk x.1) (ht : P.underlying t = some (.slice e)) : n ≤ 1048576 := by
  rcases DataW.trod_slice ht h with ⟨e1, _⟩ | ⟨a, len, cap, elems, rest, n', _, e1, rfl, _, _, _, hlen, _⟩
  · simp only [List.cons.injEq, and_true] at e1
    cases e1
    simp
  · simp only [List.cons.injEq, and_true] at e1
    cases e1
    unfold Bk at hz
    simp only [Rows.uptoBulk] at hz
    have := bulk_len (List.map (·.1) elems)
    rw [List.length_map, hlen] at this
    omega
theorem bk_str {fuel : Nat} {t : TypeId} {cs : List Value} {x : DataW H × List MemPlace} (ht : P.underlying t = some .string) (hz : Bk x.1) (h : DataW.trod enc P W base spare held fuel t cs = some x) : ∃ s : List UInt8, cs = [.string ⟨s.toArray⟩] ∧ s.length ≤ 1048576 := by
  obtain ⟨s, rfl, rfl, _⟩ := DataW.trod_string ht h
  refine ⟨s.data.toList, by simp, ?_⟩
  unfold Bk at hz
  simp only [Rows.uptoBulk] at hz
  omega
theorem trod_flds_b {t : TypeId} {fuel : Nat} {cs : List Value} {x : DataW H × List MemPlace} {l : List (TypeId × Nat)} (hu : (P.underlying t).map flds = some l) (hne : l ≠ []) (hz : Bk x.1) (h : DataW.trod enc P W base spare held fuel t cs = some x) :
    cs.length = P.cellsOf t ∧ ∃ n, ∀ (i : Nat) (p : TypeId × Nat), l[i]? = some p → ∃ y, DataW.trod enc P W base spare held n p.1 ((cs.drop p.2).take (P.cellsOf p.1)) = some y ∧ Bk y.1 := by
  cases hp : P.underlying t with
  | none => rw [hp] at hu; cases hu
  | some d =>
    rw [hp] at hu
    simp only [Option.map_some, Option.some.injEq] at hu
    cases d with
    | struct fs =>
      obtain ⟨xs, n, _, hx, hl, hlen, hf⟩ := DataW.trod_struct hp h
      refine ⟨hl, n, fun i p hi => ?_⟩
      subst hu
      simp only [flds, List.getElem?_map, Array.getElem?_toList, Option.map_eq_some_iff] at hi
      obtain ⟨f, hfi, rfl⟩ := hi
      have := hf i f hfi
      have hil : i < xs.length := by rw [hlen]; exact (Array.getElem?_eq_some_iff.1 hfi).1
      rw [List.getElem?_eq_getElem hil] at this
      refine ⟨_, this, ?_⟩
      rw [hx] at hz
      exact bk_part hz (List.mem_map.2 ⟨xs[i], List.getElem_mem hil, rfl⟩)
    | _ => exact absurd hu.symm hne
theorem trod_structs_b {α : Type} {t e : TypeId} {fuel K : Nat} {cs : List Value} {x : DataW H × List MemPlace} (cells : α → List Value) (G : α → Prop) (ht : P.underlying t = some (.slice e)) (ct : P.cellsOf e = K) (hK : 0 < K) (hz : Bk x.1)
    (he : ∀ n cs y, Bk y.1 → DataW.trod enc P W base spare held n e cs = some y → ∃ a : α, cs = cells a ∧ (cells a).length = K ∧ G a) (h : DataW.trod enc P W base spare held fuel t cs = some x) :
    ∃ (A : Option Addr) (c : Nat) (l : List α), cs = [.slice A l.length c] ∧ Rd W A (l.flatMap cells) ∧ l.length ≤ c ∧ c ≤ maxLen ∧ ∀ a ∈ l, G a := by
  rcases open_slice ht h with ⟨rfl, _⟩ | ⟨a, len, cap, m, n', D, Pl, rfl, _, h1, h2, h3, rfl, h4⟩
  · exact ⟨none, 0, [], rfl, Rd.nil _ _, Nat.le_refl _, Nat.zero_le _, fun z h => by cases h⟩
  · have hlen : len ≤ m := by rw [h3]; split <;> omega
    have each : ∀ i, i < len → ∃ x : α, ((cells x).length = K ∧ G x) ∧ ∀ j u, (cells x)[j]? = some u → W.cell? ((a.add (i * K)).add j) = some u := fun i hi' => by
      obtain ⟨cs', hc', ht'⟩ := h4 i (by omega)
      have hzi := bk_elem hz (d := D i) (List.mem_map.2 ⟨i, by simpa using hi', rfl⟩)
      obtain ⟨x, rfl, hl, hg⟩ := he _ _ _ hzi ht'
      rw [ct] at hc'
      refine ⟨x, ⟨hl, hg⟩, fun j u hj => ?_⟩
      have hj5 : j < K := by rw [← hl]; exact (List.getElem?_eq_some_iff.1 hj).1
      rw [(World.cells?_some hc').2.2 j hj5, hj]
    by_cases h0 : len = 0
    · subst h0
      exact ⟨some a, cap, [], rfl, Rd.nil _ _, Nat.zero_le _, h2, fun z h => by cases h⟩
    obtain ⟨x0, ⟨hx0l, hx0g⟩, hx0⟩ := each 0 (by omega)
    have hspot : a.spot = none := by
      have h0 := hx0 0 _ (List.getElem?_eq_getElem (by omega))
      obtain ⟨b, o, s⟩ := a
      cases s with
      | none => rfl
      | some s =>
        simp [World.cell?, Addr.add] at h0
        split at h0 <;> cases h0
    let R : Nat → α := fun i => if hi : i < len then (each i hi).choose else x0
    have hR : ∀ i (hi : i < len), R i = (each i hi).choose := fun i hi => dif_pos hi
    obtain ⟨b, o, s⟩ := a
    obtain rfl : s = none := hspot
    have hRl : ∀ y ∈ (List.range len).map R, (cells y).length = K ∧ G y := fun y hy => by
      obtain ⟨i, hi, rfl⟩ := List.mem_map.1 hy
      have hi := List.mem_range.1 hi
      rw [hR i hi]
      exact (each i hi).choose_spec.1
    refine ⟨some ⟨b, o, none⟩, cap, (List.range len).map R, by simp, fun j u hj => ?_, by simpa using h1, h2, fun y hy => (hRl y hy).2⟩
    obtain ⟨i, hi, r, hr, e, hu⟩ := flat_get hK _ (fun y hy => (hRl y hy).1) j u hj
    have hil : i < len := by simpa using hi
    have e1 : ((List.range len).map R)[i] = (each i hil).choose := by
      simp only [List.getElem_map, List.getElem_range]
      exact hR i hil
    rw [e1] at hu
    have := (each i hil).choose_spec.2 r u hu
    rw [Addr.add_lit, Addr.add_lit] at this
    refine ⟨b, o, rfl, ?_⟩
    rw [e, ← Nat.add_assoc]
    exact this
end
end Go.Proofs.Ythonmjgagblogaa
