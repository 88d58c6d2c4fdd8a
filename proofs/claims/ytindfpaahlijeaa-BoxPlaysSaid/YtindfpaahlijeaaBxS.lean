/-
  Stamps: the fourths' sums, walked on both sides. By the session itself.
-/
import Derived.Test.YtindfpaahlijeaaBxQ
import Derived.Laws.Cover2
import Derived.Laws.Cover3
namespace Go.Vc
/-- A piece whose order is drawn, what is known behind it said once. -/
theorem draw_cut {P : Program} {s : St} {w : World} {id : Nat} {l : List Oper} {Q : Ex → St → World → Prop} {k : Stop (Code.region id l.toArray true, Q)} (t : Tr) (I : St → World → Prop) (hc : (Region.noSelect l.toArray && chkT l.toArray l.length (Array.replicate l.length false) true t) = true) (S : World → Prop) (hS : S w.drew)
    (h : wT P l.toArray S I t .mk s w.drew) (hK : ∀ s' w', I s' w' → Q .normal s' w') : walk P (.region id l.toArray true) Q k s w := by
  show drawS P l.toArray (Q .normal) s w
  exact anyS_mono hK _ _ _ _ (draw_tree t hc S hS h)
section
variable {P : Program} {K : St → World → Prop} {k : Stop K} {s : St} {w : World} {S : World → Prop} (d : Option Tmp) (t : TypeId) (p : String) (af : Array Edge) (g : Option (Nat × Bool))
@[go_sem] theorem wOp_complex (args : Array Operand) (ts : Array TypeId) : wOp P ⟨d, .call ⟨.builtin .complex, args, ts⟩, t, p, af, g⟩ s w K k = wV (fun v w => K (putS s d v) w) .mk ((Builtin.complex_ ts t (args.map (ev s))).run P w) := uponS_V d (Builtin.complex_ ts t (args.map (ev s)))
@[go_sem] theorem wTake_complex (xs : Array Operand) (ts : Array TypeId) : wTake P S ⟨d, .call ⟨.builtin .complex, xs, ts⟩, t, p, af, g⟩ s w K k = stay S ((Builtin.complex_ ts t (xs.map (ev s))).run P w) (fun w => (Builtin.complex_ ts t (xs.map (ev s))).run P w) (fun v => K (putS s d v) w) .mk := wTake_V _ _ rfl
end
end Go.Vc
namespace Ieee
theorem Datum.order_self (d : Datum) (h : d.isNaN = false) : d.order d = some .eq := by
  cases d with
  | number s m i => simp [Datum.order]
  | infinity s => simp [Datum.order]
  | nan s t => simp [Datum.isNaN] at h
theorem Format.read_word (f : Format) (neg : Bool) (rung : Nat) (h : rung ≤ f.infRung) (h2 : f.infRung < f.signWeight) : (f.read (f.word neg rung)).isNaN = false := by
  have hm : f.word neg rung % f.signWeight = rung := by
    unfold Format.word
    split
    · rw [Nat.add_mod_left]; exact Nat.mod_eq_of_lt (by omega)
    · exact Nat.mod_eq_of_lt (by omega)
  unfold Format.read
  simp only [hm]
  split
  · rfl
  · split
    · rfl
    · split
      · rfl
      · omega
theorem Format.order_nearest (f : Format) (h2 : f.infRung < f.signWeight) (neg : Bool) (mag : Nat) (place : Int) : f.order (f.nearest neg mag place) (f.nearest neg mag place) = some .eq := by
  unfold Format.order
  refine Datum.order_self _ ?_
  unfold Format.nearest
  split
  · exact Format.read_word f _ _ (Nat.zero_le _) h2
  · exact Format.read_word f _ _ (Nat.min_le_right ..) h2
end Ieee
namespace Go.Proofs.Ytindfpaahlijeaa
set_option linter.unusedSimpArgs false
set_option linter.unusedVariables false
set_option maxRecDepth 100000
set_option maxHeartbeats 2000000
open Go.Vc Go.RowKit

theorem order_int (n : Int) : (FloatKind.f64.format.order (floatOfInt .f64 n) (floatOfInt .f64 n) == some .eq) = true := by
  have : FloatKind.f64.format.order (floatOfInt .f64 n) (floatOfInt .f64 n) = some .eq := Ieee.Format.order_nearest _ (by decide) _ _ _
  rw [this]; rfl
def four : Nat → List Int → List Int → List Int
  | _, [], cs => cs
  | i, v :: l, cs => four (i + 1) l (cs.set (i % 4) (IntKind.i64.wrap (cs.getD (i % 4) 0 + v)))
theorem four_len : ∀ (i : Nat) (l cs : List Int), (four i l cs).length = cs.length
  | _, [], _ => rfl
  | i, v :: l, cs => by rw [four, four_len]; simp
theorem four_snoc : ∀ (i : Nat) (l : List Int) (v : Int) (cs : List Int), four i (l ++ [v]) cs = (four i l cs).set ((i + l.length) % 4) (IntKind.i64.wrap ((four i l cs).getD ((i + l.length) % 4) 0 + v))
  | i, [], v, cs => by simp [four]
  | i, u :: l, v, cs => by
    rw [List.cons_append, four, four_snoc, four]
    rw [show i + 1 + l.length = i + (u :: l).length by simp; omega]
def fourB (l : List Int) : List Int := four 0 l [0, 0, 0, 0]
theorem fourB_len (l : List Int) : (fourB l).length = 4 := four_len 0 l _
theorem fourB_take (l : List Int) (i : Nat) (h : i < l.length) : fourB (l.take (i + 1)) = (fourB (l.take i)).set (i % 4) (IntKind.i64.wrap ((fourB (l.take i)).getD (i % 4) 0 + l[i])) := by
  unfold fourB
  rw [List.take_succ_eq_append_getElem h, four_snoc, List.length_take, Nat.min_eq_left (by omega), Nat.zero_add]
def fv (l : List Int) : Value := .agg ((fourB l).map i64).toArray
theorem wfour_spec (l : List Int) (A : Option Addr) (c : Nat) (w : World) (hr : Rd w A (l.map i64)) (hl : l.length ≤ 1000000000) :
    Cal Try.prog 48 #[.slice A l.length c] w fun v w' => v = fv l ∧ Nw w w' := by
  refine enter Try.mixed Try.func48 rfl (by kernel_rfl) ?_
  simp -dsimp [go_sem]
  obtain ⟨x, hx', hb0, hz0, hsz, n0⟩ := two_new w 68 68 #[.int .i64 0, .int .i64 0, .int .i64 0, .int .i64 0] #[.int .i64 0, .int .i64 0, .int .i64 0, .int .i64 0]
  rw [← hx']
  generalize (w.alloc (.cells #[.int .i64 0, .int .i64 0, .int .i64 0, .int .i64 0] 68)).alloc (.cells #[.int .i64 0, .int .i64 0, .int .i64 0, .int .i64 0] 68) = wa at *
  have hz1 : Blk wa (x + 1) 68 ((fourB []).map i64).toArray := hz0
  have hxl := hz0.lt
  refine loop [4, 5, 8, 9, 10, 11, 12, 13, 14, 15, 16, 17, 18, 19, 20] (by kernel_rfl)
    (fun f w' => Box1 (fun a w' => ∃ i : Nat, a = i64 i ∧ i ≤ l.length ∧ Blk w' (x + 1) 68 ((fourB (l.take i)).map i64).toArray ∧ Kp (At (x + 1)) wa w') (f 8) w') (fun f _ => l.length - (intOf (f 8)).toNat) ⟨0, rfl, by omega, hz1, Kp.refl _ _⟩ ?_
  rintro f w' ⟨i, f8, hi, hb, hk⟩
  by_cases hlt : i < l.length
  · have hi1 : IntKind.i64.wrap ((i : Int) + 1) = ((i + 1 : Nat) : Int) := by rw [w64 (by omega) (by omega)]; omega
    obtain ⟨i1, hi1'⟩ : ∃ i1, i1 = i + 1 := ⟨_, rfl⟩
    rw [← hi1'] at hi1
    have htk := fourB_take l i hlt
    rw [← hi1'] at htk
    obtain ⟨ga, go, rfl, ex⟩ := rd_int ((hr.nw n0).kp hk (hr.ofl fun k (e : k = x + 1) => by omega)) hlt
    have hmod : (i : Int).tmod 4 = ((i % 4 : Nat) : Int) := rfl
    have hwm : IntKind.i64.wrap ((i % 4 : Nat) : Int) = ((i % 4 : Nat) : Int) := w64 (by omega) (by omega)
    have hk4 : i % 4 < 4 := by omega
    have hcl := fourB_len (l.take i)
    generalize fourB (l.take i) = cs at *
    obtain ⟨k, hk'⟩ : ∃ k, k = i % 4 := ⟨_, rfl⟩
    rw [← hk'] at hmod hwm hk4 htk
    have hkc : k < cs.length := by omega
    have ck : w'.cell? ⟨x + 1, k, none⟩ = some (i64 (cs.getD k 0)) := by
      rw [hb.cell k]; simp [hkc, List.getD]
    have fk := hb.frozen k
    have hset := hb.set k (i64 (IntKind.i64.wrap (cs.getD k 0 + l[i])))
    have hset' : (cs.map i64).toArray.setIfInBounds k (i64 (IntKind.i64.wrap (cs.getD k 0 + l[i]))) = ((cs.set k (IntKind.i64.wrap (cs.getD k 0 + l[i]))).map i64).toArray := by simp [List.map_set]
    rw [hset', ← htk] at hset
    have hks : Kp (At (x + 1)) w' (w'.setCell ⟨x + 1, k, none⟩ (i64 (IntKind.i64.wrap (cs.getD k 0 + l[i])))) := (Kp.refl _ _).setCell_at _ _
    generalize cs.getD k 0 = cv at *
    have hk4' : (k : Int) < 4 := by omega
    simp -dsimp [go_sem, f8, hlt, ex, hmod, hwm, hk4, hk4', ck, fk, hi1]
    exact ⟨⟨i1, rfl, by omega, hset, hk.trans hks fun _ _ h => h⟩, by simp [intOf]; omega⟩
  · obtain rfl : i = l.length := by omega
    rw [List.take_length] at hb
    have hcl := fourB_len l
    have hx1 := hb0.kp hk (by show ¬ x = x + 1; omega)
    unfold fv
    generalize fourB l = cs at *
    match cs, hcl with
    | [a0, a1, a2, a3], _ =>
      have hb : Blk w' (x + 1) 68 #[i64 a0, i64 a1, i64 a2, i64 a3] := hb
      have c0 := hb.cell 0
      have c1 := hb.cell 1
      have c2 := hb.cell 2
      have c3 := hb.cell 3
      have z0 := hx1.cell 0
      have z1 := hx1.cell 1
      have z2 := hx1.cell 2
      have z3 := hx1.cell 3
      have f0 := hx1.frozen 0
      have f1 := hx1.frozen 1
      have f2 := hx1.frozen 2
      have f3 := hx1.frozen 3
      simp -dsimp [go_sem, f8, c0, c1, c2, c3, z0, z1, z2, z3, f0, f1, f2, f3]
      exact (n0.at_ hk fun k (e : k = x + 1) => by omega).at_ (kp_set4 w' x (i64 a0) (i64 a1) (i64 a2) (i64 a3)) fun k (e : k = x) => by omega
theorem rfour_spec (l : List Int) (A : Option Addr) (c : Nat) (w : World) (hr : Rd w A (l.map i64)) (hl : l.length ≤ 1000000000) :
    Cal Try.prog 34 #[.slice A l.length c] w fun v w' => v = fv l ∧ Nw w w' := by
  refine enter Try.mixed Try.func34 rfl (by kernel_rfl) ?_
  simp -dsimp [go_sem]
  obtain ⟨x, hx', hb0, hz0, hsz, n0⟩ := two_new w 68 68 #[.int .i64 0, .int .i64 0, .int .i64 0, .int .i64 0] #[.int .i64 0, .int .i64 0, .int .i64 0, .int .i64 0]
  rw [← hx']
  generalize (w.alloc (.cells #[.int .i64 0, .int .i64 0, .int .i64 0, .int .i64 0] 68)).alloc (.cells #[.int .i64 0, .int .i64 0, .int .i64 0, .int .i64 0] 68) = wa at *
  have hz1 : Blk wa (x + 1) 68 ((fourB []).map i64).toArray := hz0
  have hxl := hz0.lt
  refine loop [4, 5, 6, 7, 8, 9, 10, 11, 12, 13, 14, 15, 16, 17, 18, 19, 20, 21, 22] (by kernel_rfl)
    (fun f w' => Box1 (fun a w' => ∃ i : Nat, a = i64 i ∧ i ≤ l.length ∧ Blk w' (x + 1) 68 ((fourB (l.take i)).map i64).toArray ∧ Kp (At (x + 1)) wa w') (f 4) w') (fun f _ => l.length - (intOf (f 4)).toNat) ⟨0, rfl, by omega, hz1, Kp.refl _ _⟩ ?_
  rintro f w' ⟨i, f4, hi, hb, hk⟩
  by_cases hlt : i < l.length
  · have hi1 : IntKind.i64.wrap ((i : Int) + 1) = ((i + 1 : Nat) : Int) := by rw [w64 (by omega) (by omega)]; omega
    obtain ⟨i1, hi1'⟩ : ∃ i1, i1 = i + 1 := ⟨_, rfl⟩
    rw [← hi1'] at hi1
    have htk := fourB_take l i hlt
    rw [← hi1'] at htk
    obtain ⟨ga, go, rfl, ex⟩ := rd_int ((hr.nw n0).kp hk (hr.ofl fun k (e : k = x + 1) => by omega)) hlt
    have hmod : (i : Int).tmod 4 = ((i % 4 : Nat) : Int) := rfl
    have hwm : IntKind.i64.wrap ((i % 4 : Nat) : Int) = ((i % 4 : Nat) : Int) := w64 (by omega) (by omega)
    have hk4 : i % 4 < 4 := by omega
    have hcl := fourB_len (l.take i)
    generalize fourB (l.take i) = cs at *
    obtain ⟨k, hk'⟩ : ∃ k, k = i % 4 := ⟨_, rfl⟩
    rw [← hk'] at hmod hwm hk4 htk
    have hkc : k < cs.length := by omega
    have ck : w'.cell? ⟨x + 1, k, none⟩ = some (i64 (cs.getD k 0)) := by
      rw [hb.cell k]; simp [hkc, List.getD]
    have fk := hb.frozen k
    have hbd := hb.nw ((Kp.refl (fun _ => False) w').drew)
    have hset := hbd.set k (i64 (IntKind.i64.wrap (cs.getD k 0 + l[i])))
    have hset' : (cs.map i64).toArray.setIfInBounds k (i64 (IntKind.i64.wrap (cs.getD k 0 + l[i]))) = ((cs.set k (IntKind.i64.wrap (cs.getD k 0 + l[i]))).map i64).toArray := by simp [List.map_set]
    rw [hset', ← htk] at hset
    generalize cs.getD k 0 = cv at *
    have hks : Kp (At (x + 1)) w'.drew (w'.drew.setCell ⟨x + 1, k, none⟩ (i64 (IntKind.i64.wrap (cv + l[i])))) := (Kp.refl _ _).setCell_at _ _
    have hk4' : (k : Int) < 4 := by omega
    have kd : Nw w' w'.drew := (Kp.refl _ _).drew
    have exd := kd.cell_some ex fun h => h
    have ckd := kd.cell_some ck fun h => h
    have fkd := (hb.nw kd).frozen k
    simp -dsimp [go_sem, f4, hlt]
    refine drawD (.take 0 (.take 1 (.take 2 (.take 3 (.take 4 (.take 5 (.take 6 (.take 7 (.take 8 (.take 9 (.take 10 (.take 11 (.alt 12 .done .stop))))))))))))) 12 (by kernel_rfl) (fun wz => Nw w' wz) kd ?_
    simp -dsimp [go_sem, f4, hlt, exd, hmod, hwm, hk4, hk4', ckd, fkd, hi1]
    repeat refine ⟨fun wz hz => by simp [hz.cell_some ex fun h => h, hz.cell_some ck fun h => h], ?_⟩
    exact ⟨⟨i1, rfl, by omega, hset, hk.trans (kd.kp _ |>.trans hks fun _ _ h => h) fun _ _ h => h⟩, by simp [intOf]; omega⟩
  · obtain rfl : i = l.length := by omega
    rw [List.take_length] at hb
    have hcl := fourB_len l
    have hx1 := hb0.kp hk (by show ¬ x = x + 1; omega)
    unfold fv
    generalize fourB l = cs at *
    match cs, hcl with
    | [a0, a1, a2, a3], _ =>
      have hb : Blk w' (x + 1) 68 #[i64 a0, i64 a1, i64 a2, i64 a3] := hb
      have c0 := hb.cell 0
      have c1 := hb.cell 1
      have c2 := hb.cell 2
      have c3 := hb.cell 3
      have z0 := hx1.cell 0
      have z1 := hx1.cell 1
      have z2 := hx1.cell 2
      have z3 := hx1.cell 3
      have f0 := hx1.frozen 0
      have f1 := hx1.frozen 1
      have f2 := hx1.frozen 2
      have f3 := hx1.frozen 3
      simp -dsimp [go_sem, f4, c0, c1, c2, c3, z0, z1, z2, z3, f0, f1, f2, f3]
      exact (n0.at_ hk fun k (e : k = x + 1) => by omega).at_ (kp_set4 w' x (i64 a0) (i64 a1) (i64 a2) (i64 a3)) fun k (e : k = x) => by omega
def tA (l : List Int) : Int := IntKind.i64.wrap ((fourB l).getD 0 0 - (fourB l).getD 2 0)
def tB (l : List Int) : Int := IntKind.i64.wrap ((fourB l).getD 1 0 - (fourB l).getD 3 0)
theorem cv_float (n : Int) (W : World) : (convert 3 50 (.int .i64 n)).run Try.prog W = .ok (.float .f64 (floatOfInt .f64 n)) W := run_convert_int_float W _ _ _ _ _ (by kernel_rfl) (by kernel_rfl)
theorem turn_spec (l : List Int) (A : Option Addr) (c : Nat) (w : World) (hr : Rd w A (l.map i64)) (hl : l.length ≤ 1000000000) :
    Cal Try.prog 35 #[.slice A l.length c] w fun v w' => v = .complex .f64 (floatOfInt .f64 (tA l)) (floatOfInt .f64 (tB l)) ∧ Nw w w' := by
  refine enter Try.mixed Try.func35 rfl (by kernel_rfl) ?_
  simp -dsimp [go_sem]
  refine call (wfour_spec l A c w hr hl) ?_
  rintro v w1 ⟨rfl, hk⟩
  have hcl := fourB_len l
  unfold fv tA tB
  generalize fourB l = cs at *
  match cs, hcl with
  | [a0, a1, a2, a3], _ =>
    simp -dsimp [go_sem, cv_float]
    exact hk.alloc _
def rstampV (l : List Int) : Value := .agg #[i64 (tA l), i64 (tB l)]
theorem uidsL (q : MQ) (L : List Msg) (h : q.map Prod.fst = L) (i : Nat) (hi : i < q.length) : (L.map Msg.uid).take (i + 1) = (L.map Msg.uid).take i ++ [q[i].1.uid] := by
  subst h
  rw [List.take_succ_eq_append_getElem (by simpa using hi)]
  simp
theorem rstamp_spec (v : Value) (b : Bx) (S : Nat → Prop) (w : World) (h : RB w v b S) (hl : b.L.length ≤ 1000000) :
    Cal Try.prog 19 #[v] w fun v' w' => v' = rstampV (b.L.map Msg.uid) ∧ Nw w w' := by
  obtain ⟨A, c, q, rfl, hq, hc, hr, ho, hb⟩ := h
  have hql : q.length = b.L.length := by rw [← hq, List.length_map]
  refine enter Try.mixed Try.func19 rfl (by kernel_rfl) ?_
  simp -dsimp [go_sem]
  obtain ⟨x, hx', hb0, hz0, hsz, n0⟩ := two_new w 26 46 #[.string b.name, i64 b.val, i64 b.next, .slice A b.L.length c] #[.int .i64 0, .int .i64 0]
  rw [← hx']
  generalize (w.alloc (.cells #[.string b.name, i64 b.val, i64 b.next, .slice A b.L.length c] 26)).alloc (.cells #[.int .i64 0, .int .i64 0] 46) = wa at *
  obtain ⟨ids, hids⟩ : ∃ ids, ids = b.L.map Msg.uid := ⟨_, rfl⟩
  have hidl : ids.length = q.length := by rw [hids, List.length_map, hql]
  obtain ⟨M, hM⟩ : ∃ M, M = wa.heap.size := ⟨_, rfl⟩
  rw [← hids]
  refine loop [3, 4, 6, 7, 8, 9, 10, 11, 12, 13, 14, 15, 16, 17, 18, 19, 20, 21] (by kernel_rfl)
    (fun f w' => Box2 (fun a t w' => ∃ (i n : Nat) (As : Option Addr) (cs : Nat), a = i64 i ∧ i ≤ q.length ∧ n = i ∧ t = .slice As n cs ∧ Ow w' 3 1 As n cs ((ids.take i).map i64) ∧ (∀ k, blk As k → M ≤ k) ∧ Kp (Fr M) wa w') (f 4) (f 3) w') (fun f _ => q.length - (intOf (f 4)).toNat)
    ⟨0, 0, none, 0, rfl, by omega, rfl, rfl, Ow.nil _ _ _, (fun k h => h.elim), Kp.refl _ _⟩ ?_
  rintro f w' ⟨i, n, As, cs, fi, hi, hn, f3, hos, hAs, hK⟩
  have n1 : Nw w w' := Nw.fr n0 hK (by rw [hM]; exact n0.size)
  have hxM : x + 1 < M := by rw [hM]; exact hz0.lt
  have c3 : w'.cell? ⟨x, 3, none⟩ = some (.slice A b.L.length c) := (hb0.kp hK (by show ¬ M ≤ x; omega)).cell 3
  by_cases hlt : i < q.length
  · have hlt' : i < b.L.length := by omega
    have hi1 : IntKind.i64.wrap ((i : Int) + 1) = ((i + 1 : Nat) : Int) := by rw [w64 (by omega) (by omega)]; omega
    have hidt : ids.take (i + 1) = ids.take i ++ [q[i].1.uid] := by rw [hids]; exact uidsL q b.L hq i hlt
    obtain ⟨i1, hi1'⟩ : ∃ i1, i1 = i + 1 := ⟨_, rfl⟩
    rw [← hi1'] at hi1 hidt
    obtain ⟨g, o, rfl, e0, e1, e2, e3⟩ := msg_at (hr.nw n1) hlt
    have hbm := hb _ (List.getElem_mem hlt)
    generalize q[i] = p at *
    obtain ⟨m, mv⟩ := p
    simp only at e0 e1 e2 e3 hbm hidt
    obtain ⟨Bm, dm, rfl, hom, hBm⟩ := id hbm
    simp -dsimp [go_sem, fi, hlt', c3, e0, e1, e2, e3, f3]
    have kb : Nw w' (w'.alloc (.cells #[i64 m.uid] 3)) := (Kp.refl _ _).alloc _
    refine app Try.Sint (hos.nw kb) (ys := [i64 m.uid]) (Rd.fresh rfl rfl) (m := 1) rfl (by simp; rfl) (by omega) (by omega) ?_
    intro A5 c5 w5 ho5 hk5 hAA
    have hk45 : Kp (blk As) w' w5 := (Nw.kp kb _).trans hk5 fun _ _ h => h
    rw [show (ids.take i).map i64 ++ [i64 m.uid] = (ids.take i1).map i64 by rw [hidt]; simp] at ho5
    obtain ⟨n5, hn5⟩ : ∃ n5, n5 = n + 1 := ⟨_, rfl⟩
    rw [← hn5] at ho5 ⊢
    simp -dsimp [go_sem, fi, hi1]
    refine ⟨⟨i1, n5, A5, c5, rfl, by omega, by omega, rfl, ho5, fun k hk => ?_, hK.trans hk45 fun k _ h => hAs k h⟩, by simp [intOf]; omega⟩
    rcases hAA with rfl | ⟨rfl, _⟩
    · exact hAs k hk
    · have e : k = (w'.alloc (.cells #[i64 m.uid] 3)).heap.size := hk
      rw [e]
      have := hK.size
      have := kb.size
      omega
  · obtain rfl : i = q.length := by omega
    rw [← hidl, List.take_length] at hos
    have hge : ¬ q.length < b.L.length := by omega
    have en : n = ids.length := by omega
    rw [en] at f3 hos
    obtain ⟨ln, hln⟩ : ∃ ln, ln = ids.length := ⟨_, rfl⟩
    have hz' := hz0.kp hK (by show ¬ M ≤ x + 1; omega)
    rw [← hln] at f3
    simp -dsimp [go_sem, fi, hge, c3, f3]
    rw [hln]
    refine call (rfour_spec ids As cs w' hos.rd (by omega)) ?_
    rintro v5 w5 ⟨rfl, hk5⟩
    have hz5 := hz'.nw hk5
    have n5 := n1.nw hk5
    have hcl := fourB_len ids
    unfold fv rstampV tA tB
    generalize fourB ids = c4 at *
    match c4, hcl with
    | [a0, a1, a2, a3], _ =>
      have k6 : Nw w5 (w5.alloc (.cells #[i64 a0, i64 a1, i64 a2, i64 a3] 68)) := (Kp.refl _ _).alloc _
      have hz6 := hz5.nw k6
      have z0 := hz6.cell 0
      have z1 := hz6.cell 1
      have f0 := hz6.frozen 0
      have f1 := hz6.frozen 1
      simp -dsimp [go_sem]
      simp [go_sem]
      simp -dsimp [go_sem, z0, z1, f0, f1]
      have ks : Kp (At (x + 1)) (w5.alloc (.cells #[i64 a0, i64 a1, i64 a2, i64 a3] 68)) (((w5.alloc (.cells #[i64 a0, i64 a1, i64 a2, i64 a3] 68)).setCell ⟨x + 1, 0, none⟩ (i64 (IntKind.i64.wrap (a0 - a2)))).setCell ⟨x + 1, 1, none⟩ (i64 (IntKind.i64.wrap (a1 - a3)))) := ((Kp.refl _ _).setCell_at _ _).setCell_at _ _
      exact (n5.nw k6).at_ ks fun k (e : k = x + 1) => by omega
theorem stamp_spec (v : Value) (b : Bx) (S : Nat → Prop) (w : World) (h : RB w v b S) (hl : b.L.length ≤ 1000000) :
    Cal Try.prog 20 #[v] w fun v' w' => v' = .complex .f64 (floatOfInt .f64 (tA (b.L.map Msg.uid))) (floatOfInt .f64 (tB (b.L.map Msg.uid))) ∧ Nw w w' := by
  obtain ⟨A, c, q, rfl, hq, hc, hr, ho, hb⟩ := h
  have hql : q.length = b.L.length := by rw [← hq, List.length_map]
  refine enter Try.mixed Try.func20 rfl (by kernel_rfl) ?_
  simp -dsimp [go_sem]
  have n0 : Nw w (w.alloc (.cells #[.string b.name, i64 b.val, i64 b.next, .slice A b.L.length c] 26)) := (Kp.refl _ _).alloc _
  generalize w.alloc (.cells #[.string b.name, i64 b.val, i64 b.next, .slice A b.L.length c] 26) = wa at *
  obtain ⟨ids, hids⟩ : ∃ ids, ids = b.L.map Msg.uid := ⟨_, rfl⟩
  have hidl : ids.length = q.length := by rw [hids, List.length_map, hql]
  obtain ⟨M, hM⟩ : ∃ M, M = wa.heap.size := ⟨_, rfl⟩
  rw [← hids]
  refine loop [3, 5, 9, 10, 11, 12, 13, 14, 15, 16, 17, 18] (by kernel_rfl)
    (fun f w' => Box2 (fun a t w' => ∃ (i n : Nat) (As : Option Addr) (cs : Nat), a = i64 i ∧ i ≤ q.length ∧ n = i ∧ t = .slice As n cs ∧ Ow w' 3 1 As n cs ((ids.take i).map i64) ∧ (∀ k, blk As k → M ≤ k) ∧ Kp (Fr M) wa w') (f 9) (f 3) w') (fun f _ => q.length - (intOf (f 9)).toNat)
    ⟨0, 0, none, 0, rfl, by omega, rfl, rfl, Ow.nil _ _ _, (fun k h => h.elim), Kp.refl _ _⟩ ?_
  rintro f w' ⟨i, n, As, cs, fi, hi, hn, f3, hos, hAs, hK⟩
  have n1 : Nw w w' := Nw.fr n0 hK (by rw [hM]; exact n0.size)
  by_cases hlt : i < q.length
  · have hlt' : i < b.L.length := by omega
    have hi1 : IntKind.i64.wrap ((i : Int) + 1) = ((i + 1 : Nat) : Int) := by rw [w64 (by omega) (by omega)]; omega
    have hidt : ids.take (i + 1) = ids.take i ++ [q[i].1.uid] := by rw [hids]; exact uidsL q b.L hq i hlt
    obtain ⟨i1, hi1'⟩ : ∃ i1, i1 = i + 1 := ⟨_, rfl⟩
    rw [← hi1'] at hi1 hidt
    obtain ⟨g, o, rfl, e0, e1, e2, e3⟩ := msg_at (hr.nw n1) hlt
    have hbm := hb _ (List.getElem_mem hlt)
    generalize q[i] = p at *
    obtain ⟨m, mv⟩ := p
    simp only at e0 e1 e2 e3 hbm hidt
    obtain ⟨Bm, dm, rfl, hom, hBm⟩ := id hbm
    simp -dsimp [go_sem, fi, hlt', e0, e1, e2, e3, f3]
    have kc : Nw w' (w'.alloc (.cells #[i64 m.uid, i64 m.flags, i64 m.date, .slice Bm m.body.length dm] 42)) := (Kp.refl _ _).alloc _
    have hsz : w'.heap.size + 1 = (w'.alloc (.cells #[i64 m.uid, i64 m.flags, i64 m.date, .slice Bm m.body.length dm] 42)).heap.size := by simp
    generalize w'.alloc (.cells #[i64 m.uid, i64 m.flags, i64 m.date, .slice Bm m.body.length dm] 42) = wc at *
    have kb : Nw wc (wc.alloc (.cells #[i64 m.uid] 3)) := (Kp.refl _ _).alloc _
    refine app Try.Sint ((hos.nw kc).nw kb) (ys := [i64 m.uid]) (Rd.fresh hsz rfl) (m := 1) rfl (by simp; rfl) (by omega) (by omega) ?_
    intro A5 c5 w5 ho5 hk5 hAA
    have hk45 : Kp (blk As) w' w5 := (Nw.kp (kc.nw kb) _).trans hk5 fun _ _ h => h
    rw [show (ids.take i).map i64 ++ [i64 m.uid] = (ids.take i1).map i64 by rw [hidt]; simp] at ho5
    obtain ⟨n5, hn5⟩ : ∃ n5, n5 = n + 1 := ⟨_, rfl⟩
    rw [← hn5] at ho5 ⊢
    simp -dsimp [go_sem, fi, hi1]
    refine ⟨⟨i1, n5, A5, c5, rfl, by omega, by omega, rfl, ho5, fun k hk => ?_, hK.trans hk45 fun k _ h => hAs k h⟩, by simp [intOf]; omega⟩
    rcases hAA with rfl | ⟨rfl, _⟩
    · exact hAs k hk
    · have e : k = (wc.alloc (.cells #[i64 m.uid] 3)).heap.size := hk
      rw [e]
      have := hK.size
      have := kc.size
      have := kb.size
      omega
  · obtain rfl : i = q.length := by omega
    rw [← hidl, List.take_length] at hos
    have hge : ¬ q.length < b.L.length := by omega
    have en : n = ids.length := by omega
    rw [en] at f3 hos
    obtain ⟨ln, hln⟩ : ∃ ln, ln = ids.length := ⟨_, rfl⟩
    rw [← hln] at f3
    simp -dsimp [go_sem, fi, hge, f3]
    rw [hln]
    refine call (turn_spec ids As cs w' hos.rd (by omega)) ?_
    rintro v5 w5 ⟨rfl, hk5⟩
    simp -dsimp [go_sem]
    exact n1.nw hk5
end Go.Proofs.Ytindfpaahlijeaa
