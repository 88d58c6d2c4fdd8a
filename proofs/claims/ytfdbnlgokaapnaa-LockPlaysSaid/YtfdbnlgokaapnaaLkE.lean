/-
  lock's reference: who has what and who is due as lists; Holder, Take, Free, Forget, Touch, Due walked. By the session itself.
-/
import Derived.Test.YtfdbnlgokaapnaaLkD
namespace Go.Proofs.Ytfdbnlgokaapnaa
set_option linter.unusedSimpArgs false
set_option linter.unusedVariables false
set_option maxRecDepth 100000
set_option maxHeartbeats 1000000
open Go.Vc Go.RowKit

theorem Sheld : SlT Try.prog 33 63 2 24 (.agg #[.string ⟨#[]⟩, .int .i64 0]) := ⟨by kernel_rfl, by kernel_rfl, by rfl, by decide⟩
theorem Sdue : SlT Try.prog 34 65 2 16 (.agg #[.int .i64 0, .int .i64 0]) := ⟨by kernel_rfl, by kernel_rfl, by rfl, by decide⟩

theorem str_ne {a b : ByteArray} (h : a ≠ b) : (a.toList == b.toList) = false := by
  obtain ⟨⟨a⟩⟩ := a
  obtain ⟨⟨b⟩⟩ := b
  have : a ≠ b := fun e => h (by rw [e])
  simpa [go_sem] using this
theorem run_bsA2 {P : Program} {w : World} (t : TypeId) (a b : Value) (h : P.underlying t = some (.slice (P.elem t))) (hs : (sizeOf (P.elem t)).run P w = .ok 2 w) (hz : ∃ x y, (zeroValue (P.elem t)).run P w = .ok (.agg #[x, y]) w) :
    bsR P t 1 #[(0, .agg #[a, b])] w = .ok (.slice (some ⟨w.heap.size, 0, none⟩) 1 1) (w.alloc (.cells #[a, b] (P.elem t))) := by
  obtain ⟨x, y, hz⟩ := hz
  simp [bsR, Instr.buildSlice, run_underlying h, hs, hz, Instr.fill, Value.cells, newRow, show Array.range 1 = #[0] from rfl, show Array.range 2 = #[0, 1] from rfl]
@[go_sem 20000] theorem bs_held (a b : Value) (w : World) : bsR Try.prog 33 1 #[(0, .agg #[a, b])] w = .ok (.slice (some ⟨w.heap.size, 0, none⟩) 1 1) (w.alloc (.cells #[a, b] 63)) :=
  run_bsA2 _ a b (by kernel_rfl) (by rfl) ⟨_, _, rfl⟩
@[go_sem 20000] theorem bs_due (a b : Value) (w : World) : bsR Try.prog 34 1 #[(0, .agg #[a, b])] w = .ok (.slice (some ⟨w.heap.size, 0, none⟩) 1 1) (w.alloc (.cells #[a, b] 65)) :=
  run_bsA2 _ a b (by kernel_rfl) (by rfl) ⟨_, _, rfl⟩
section
variable {α : Type} [DecidableEq α]
def gLook : List (α × Int) → α → Option Int
  | [], _ => none
  | p :: r, u => if p.1 = u then some p.2 else gLook r u
theorem gLook_app (l m : List (α × Int)) (u : α) : gLook (l ++ m) u = if gLook l u = none then gLook m u else gLook l u := by
  induction l with
  | nil => simp [gLook]
  | cons p r ih =>
    simp only [List.cons_append, gLook]
    split
    · simp
    · exact ih
theorem gLook_not {l : List (α × Int)} {u : α} : gLook l u = none ↔ u ∉ l.map (·.1) := by
  induction l with
  | nil => simp [gLook]
  | cons p r ih =>
    simp only [gLook, List.map_cons, List.mem_cons, not_or]
    split
    · rename_i h; simp [h]
    · rename_i h
      rw [ih]
      exact ⟨fun h2 => ⟨fun e => h e.symm, h2⟩, fun h2 => h2.2⟩
theorem gLook_mem {l : List (α × Int)} (nd : (l.map (·.1)).Nodup) {u : α} {a : Int} : gLook l u = some a ↔ (u, a) ∈ l := by
  induction l with
  | nil => simp [gLook]
  | cons p r ih =>
    have nd := List.nodup_cons.1 (by simpa using nd : (p.1 :: r.map (·.1)).Nodup)
    simp only [gLook, List.mem_cons]
    split
    · rename_i h
      constructor
      · intro e
        injection e with e
        exact .inl (by rw [← h, ← e])
      · rintro (e | e)
        · rw [← e]
        · exact absurd (List.mem_map_of_mem (f := (·.1)) e) (by rw [← h]; exact nd.1)
    · rename_i h
      rw [ih nd.2]
      exact ⟨.inr, fun e => e.elim (fun e => absurd (by rw [← e]) h) id⟩
omit [DecidableEq α] in
theorem filter_nd {l : List (α × Int)} (nd : (l.map (·.1)).Nodup) (q : α × Int → Bool) : ((l.filter q).map (·.1)).Nodup := by
  induction l with
  | nil => simp
  | cons p r ih =>
    have nd := List.nodup_cons.1 (by simpa using nd : (p.1 :: r.map (·.1)).Nodup)
    simp only [List.filter_cons]
    split
    · simp only [List.map_cons, List.nodup_cons]
      refine ⟨fun h => nd.1 ?_, ih nd.2⟩
      obtain ⟨x, hx, e⟩ := List.mem_map.1 h
      exact List.mem_map.2 ⟨x, (List.mem_filter.1 hx).1, e⟩
    · exact ih nd.2
omit [DecidableEq α] in
theorem nodup_le [BEq α] [LawfulBEq α] : ∀ {ks l : List α}, ks.Nodup → (∀ x ∈ ks, x ∈ l) → ks.length ≤ l.length
  | [], _, _, _ => by simp
  | a :: r, l, nd, h => by
    have nd := List.nodup_cons.1 nd
    have ha := h a (by simp)
    have h1 := nodup_le (l := l.erase a) nd.2 fun x hx => (List.mem_erase_of_ne (fun e : x = a => nd.1 (by rw [← e]; exact hx))).2 (h x (by simp [hx]))
    rw [List.length_erase_of_mem ha] at h1
    have := List.length_pos_of_mem ha
    simp
    omega
/-- Pairs as cells. -/
def cl (κ : α → Value) (l : List (α × Int)) : List Value := l.flatMap fun p => [κ p.1, i64 p.2]
omit [DecidableEq α] in
theorem cl_len (κ : α → Value) (l : List (α × Int)) : (cl κ l).length = l.length * 2 := by
  induction l with
  | nil => rfl
  | cons p r ih => simp only [cl, List.flatMap_cons, List.length_append, List.length_cons, List.length_nil] at ih ⊢; omega
omit [DecidableEq α] in
theorem cl_app (κ : α → Value) (l m : List (α × Int)) : cl κ (l ++ m) = cl κ l ++ cl κ m := by simp [cl]
omit [DecidableEq α] in
theorem cl_at (κ : α → Value) : ∀ (l : List (α × Int)) (i : Nat) (h : i < l.length), (cl κ l)[i * 2]? = some (κ l[i].1) ∧ (cl κ l)[i * 2 + 1]? = some (i64 l[i].2)
  | p :: r, 0, _ => ⟨rfl, rfl⟩
  | p :: r, i + 1, h => by
    have := cl_at κ r i (by simpa using h)
    rw [show (i + 1) * 2 = i * 2 + 1 + 1 by omega]
    exact this
omit [DecidableEq α] in
theorem cl_take (κ : α → Value) (l : List (α × Int)) (i : Nat) (h : i ≤ l.length) : (cl κ l).take (i * 2) = cl κ (l.take i) := by
  have e : cl κ l = cl κ (l.take i) ++ cl κ (l.drop i) := by rw [← cl_app, List.take_append_drop]
  rw [e, List.take_left' (by rw [cl_len, List.length_take, Nat.min_eq_left h])]
omit [DecidableEq α] in
theorem cl_drop (κ : α → Value) (l : List (α × Int)) (i : Nat) (h : i ≤ l.length) : (cl κ l).drop (i * 2) = cl κ (l.drop i) := by
  have e : cl κ l = cl κ (l.take i) ++ cl κ (l.drop i) := by rw [← cl_app, List.take_append_drop]
  rw [e, List.drop_left' (by rw [cl_len, List.length_take, Nat.min_eq_left h])]
end
theorem cl_oneS (l : List (ByteArray × Int)) : ∀ u ∈ cl kStr l, u.oneCell' = true := by
  intro u hu
  obtain ⟨p, _, hp⟩ := List.mem_flatMap.1 hu
  simp at hp
  rcases hp with rfl | rfl <;> rfl
theorem cl_oneI (l : List (Int × Int)) : ∀ u ∈ cl kInt l, u.oneCell' = true := by
  intro u hu
  obtain ⟨p, _, hp⟩ := List.mem_flatMap.1 hu
  simp at hp
  rcases hp with rfl | rfl <;> rfl

/-- The reference's Locks at block y. -/
def RefL (w : World) (y : Nat) (hl : List (ByteArray × Int)) (dl : List (Int × Int)) (F : Nat → Prop) : Prop :=
  ∃ H ch D cd, Blk w y 36 #[.slice H hl.length ch, .slice D dl.length cd] ∧ Ow w 63 2 H hl.length ch (cl kStr hl) ∧ Rd w D (cl kInt dl) ∧ dl.length ≤ cd ∧
    (∀ k, k = y ∨ blk H k ∨ blk D k → F k) ∧ Off H (At y) ∧ Off D (At y) ∧ (∀ k, blk H k → ¬ blk D k) ∧ (∀ k, F k → k < w.heap.size)
theorem RefL.kp_ {S : Nat → Prop} {w w' : World} {y : Nat} {hl : List (ByteArray × Int)} {dl : List (Int × Int)} {F : Nat → Prop} (h : RefL w y hl dl F) (k : Kp S w w') (hd : ∀ i, F i → ¬ S i) : RefL w' y hl dl F := by
  obtain ⟨H, ch, D, cd, hb, ho, hr, hc, hF, h1, h2, h3, hlt⟩ := h
  exact ⟨H, ch, D, cd, hb.kp k (hd _ (hF _ (.inl rfl))), ho.kp k (Off.of_blk fun i hi => hd _ (hF _ (.inr (.inl hi)))), hr.kp k ((Off.of_blk fun i hi => hd _ (hF _ (.inr (.inr hi)))).l _), hc, hF, h1, h2, h3, fun i hi => Nat.lt_of_lt_of_le (hlt i hi) k.size⟩
theorem RefL.in_ {w : World} {y : Nat} {hl : List (ByteArray × Int)} {dl : List (Int × Int)} {F : Nat → Prop} (h : RefL w y hl dl F) : F y := by
  obtain ⟨H, ch, D, cd, hb, ho, hr, hc, hF, h1, h2, h3, hlt⟩ := h
  exact hF _ (.inl rfl)
theorem RefL.lt_ {w : World} {y : Nat} {hl : List (ByteArray × Int)} {dl : List (Int × Int)} {F : Nat → Prop} (h : RefL w y hl dl F) : ∀ k, F k → k < w.heap.size := by
  obtain ⟨H, ch, D, cd, hb, ho, hr, hc, hF, h1, h2, h3, hlt⟩ := h
  exact hlt

theorem rHolder_spec (y : Nat) (hl : List (ByteArray × Int)) (dl : List (Int × Int)) (F : Nat → Prop) (u : ByteArray) (w : World) (h : RefL w y hl dl F) (hll : hl.length ≤ 1000) :
    Cal Try.prog 21 #[.pointer (some ⟨y, 0, none⟩), .string u] w fun v w' => v = .tuple #[i64 ((gLook hl u).getD 0), .bool (gLook hl u).isSome] ∧ w' = w := by
  obtain ⟨H, ch, D, cd, hb, ho, hr, hc, hF, h1, h2, h3, hlt⟩ := h
  have b0 := hb.cell 0
  refine enter Try.mixed Try.func21 rfl (by kernel_rfl) ?_
  simp -dsimp [go_sem]
  refine loop [4, 5, 6, 7, 8, 9, 10, 11, 12, 13, 14, 15, 16, 17, 18, 19, 20, 21, 22, 23, 24, 25, 26, 27, 28, 29, 30, 31, 32, 33] (by kernel_rfl)
    (fun f w' => Box1 (fun a w' => ∃ i : Nat, i ≤ hl.length ∧ a = i64 i ∧ gLook (hl.drop i) u = gLook hl u ∧ w' = w) (f 6) w') (fun f _ => hl.length - (intOf (f 6)).toNat) ⟨0, Nat.zero_le _, rfl, rfl, rfl⟩ ?_
  rintro f w' ⟨i, hi, f6, hg, rfl⟩
  by_cases hlt : i < hl.length
  · obtain ⟨c0, c1⟩ := cl_at kStr hl i hlt
    obtain ⟨b, o, rfl, hc0⟩ := ho.rd _ _ c0
    obtain ⟨b', o', e, hc1⟩ := ho.rd _ _ c1
    cases e
    rw [← Nat.add_assoc] at hc1
    rw [List.drop_eq_getElem_cons hlt] at hg
    simp only [gLook] at hg
    have hki : IntKind.i64.wrap ((i : Int) + 1) = ((i + 1 : Nat) : Int) := w64 (by omega) (by omega)
    obtain ⟨i1, hi1⟩ : ∃ i1, i1 = i + 1 := ⟨_, rfl⟩
    rw [← hi1] at hki hg
    generalize hl[i].1 = u1 at *
    generalize hl[i].2 = n1 at *
    by_cases hu : u1 = u
    · subst hu
      rw [if_pos rfl] at hg
      simp -dsimp [go_sem, f6, b0, hlt, hc0, hc1, ← hg]
    · have hu' : (u1.toList == u.toList) = false := str_ne hu
      rw [if_neg hu] at hg
      simp -dsimp [go_sem, f6, b0, hlt, hc0, hu', hu, hki]
      exact ⟨⟨i1, by omega, rfl, hg, rfl⟩, by simp [intOf]; omega⟩
  · obtain rfl : i = hl.length := by omega
    rw [List.drop_length] at hg
    have hg : gLook hl u = none := hg.symm
    rw [hg]
    simp -dsimp [go_sem, f6, b0]
def takeL (hl : List (ByteArray × Int)) (u : ByteArray) (n : Int) : List (ByteArray × Int) := if gLook hl u = none then hl ++ [(u, n)] else hl
theorem rTake_spec (y : Nat) (hl : List (ByteArray × Int)) (dl : List (Int × Int)) (F : Nat → Prop) (u : ByteArray) (n : Int) (w : World) (h : RefL w y hl dl F) (hll : hl.length ≤ 1000) :
    Cal Try.prog 14 #[.pointer (some ⟨y, 0, none⟩), .string u, i64 n] w fun v w' => v = .bool (mayF (gLook hl) u n) ∧ ∃ F', RefL w' y (takeL hl u n) dl F' ∧ Gr F F' w w' ∧ Kp F w w' := by
  have hh := rHolder_spec y hl dl F u w h hll
  obtain ⟨H, ch, D, cd, hb, ho, hr, hc, hF, h1, h2, h3, hlt⟩ := id h
  have b0 := hb.cell 0
  refine enter Try.mixed Try.func14 rfl (by kernel_rfl) ?_
  simp -dsimp [go_sem]
  refine call hh ?_
  rintro v w' ⟨rfl, rfl⟩
  cases hg : gLook hl u with
  | some c =>
    have e1 : mayF (gLook hl) u n = decide (c = n) := by simp [mayF, hg]
    have e2 : takeL hl u n = hl := by simp [takeL, hg]
    rw [e1, e2]
    simp -dsimp [go_sem]
    refine ⟨?_, F, h, Gr.refl _ _, Kp.refl _ _⟩
    by_cases hcn : c = n <;> simp [hcn]
  | none =>
    have e1 : mayF (gLook hl) u n = true := by simp [mayF, hg]
    have e2 : takeL hl u n = hl ++ [(u, n)] := by simp [takeL, hg]
    rw [e1, e2]
    have b0f := hb.frozen 0
    have ka : Nw w' (w'.alloc (.cells #[.string u, i64 n] 63)) := (Kp.refl _ _).alloc _
    simp -dsimp [go_sem, b0]
    simp [go_sem]
    refine app Sheld (ho.nw ka) (ys := cl kStr [(u, n)]) (Rd.fresh rfl rfl) (m := 1) (by simp [cl_len]) (cl_oneS _) (by omega) (by omega) ?_
    intro A2 c2 w2 ho2 hk2 hAA
    have hb2 := (hb.kp ka fun h => h).kp hk2 fun e => h1 _ (blk_of e).choose_spec.1 (blk_of e).choose_spec.2
    have g0 := hb2.cell 0
    have g0f := hb2.frozen 0
    simp -dsimp [go_sem, g0, g0f]
    have hs : Kp (At y) w2 (w2.setCell ⟨y, 0, none⟩ (.slice A2 (hl.length + 1) c2)) := (Kp.refl _ _).setCell_at _ _
    have hA2 : ∀ k, blk A2 k → blk H k ∨ k = (w'.alloc (.cells #[.string u, i64 n] 63)).heap.size ∧ k < w2.heap.size := fun k hk => by
      rcases hAA with rfl | ⟨rfl, hl⟩
      · exact .inl hk
      · exact .inr ⟨hk, by rw [show k = _ from hk]; exact hl⟩
    have hyl := hlt y (hF _ (.inl rfl))
    have hkn : Kp F w' w2 := (ka.kp F).trans hk2 fun k _ e => hF k (.inr (.inl e))
    have hoA : Off A2 (At y) := fun a ha e => by
      rcases hA2 a.block (by rw [ha]; rfl) with e2 | ⟨e2, _⟩
      · obtain ⟨a2, ha2, e3⟩ := blk_of e2
        exact h1 a2 ha2 (e3.trans e)
      · have := ka.size
        have e : a.block = y := e
        omega
    refine ⟨fun k => F k ∨ blk A2 k, ⟨A2, c2, D, cd, by simpa using hb2.set 0 _, ?_, ?_, hc, fun k hk => ?_, hoA, h2, fun k hk hd => ?_, fun k hk => ?_⟩, fun k hk => ?_, hkn.trans hs fun k _ e => by rw [show k = y from e]; exact hF _ (.inl rfl)⟩
    · rw [show (hl ++ [(u, n)]).length = hl.length + 1 by simp, cl_app]
      exact ho2.kp hs hoA
    · exact ((hr.nw ka).kp hk2 (fun a ha _ e => h3 _ e (by rw [ha]; rfl))).kp hs (h2.l _)
    · rcases hk with e | e | e
      · exact .inl (hF _ (.inl e))
      · exact .inr e
      · exact .inl (hF _ (.inr (.inr e)))
    · rcases hA2 k hk with e | ⟨e, _⟩
      · exact h3 k e hd
      · have h4 := hlt k (hF _ (.inr (.inr hd)))
        have := ka.size
        omega
    · have h5 := hk2.size
      have h6 := ka.size
      refine Nat.lt_of_lt_of_le ?_ hs.size
      rcases hk with e | e
      · have := hlt k e; omega
      · rcases hA2 k e with e | ⟨_, e⟩
        · have := hlt k (hF _ (.inr (.inl e))); omega
        · exact e
    · have h6 := ka.size
      rcases hk with e | e
      · exact .inl e
      · rcases hA2 k e with e | ⟨e, e2⟩
        · exact .inl (hF _ (.inr (.inl e)))
        · exact .inr ⟨by omega, by simpa using e2⟩
end Go.Proofs.Ytfdbnlgokaapnaa
