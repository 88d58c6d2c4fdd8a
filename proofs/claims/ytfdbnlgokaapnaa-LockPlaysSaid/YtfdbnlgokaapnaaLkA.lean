/-
  What the small functions of lock come to: New, Take, Free, Holder. By the session itself.
-/
import Derived.Test.YtfdbnlgokaapnaaMp
import Derived.Test.YtfdbnlgokaapnaaHd
namespace Go.Proofs.Ytfdbnlgokaapnaa
set_option linter.unusedSimpArgs false
set_option linter.unusedVariables false
set_option maxRecDepth 100000
open Go.Vc Go.RowKit

abbrev kStr : ByteArray → Value := fun s => .string s
abbrev kInt : Int → Value := fun n => .int .i64 n
/-- A map's values as integers. -/
abbrev Mi {α : Type} (f : α → Option Int) : α → Option Value := fun a => (f a).map i64
/-- Locks at block g: who has which, who is due when; all lies within F. -/
def Lk (w : World) (g : Nat) (f : ByteArray → Option Int) (d : Int → Option Int) (F : Nat → Prop) : Prop :=
  ∃ r1 r2, Blk w g 60 #[.map (some r1), .map (some r2)] ∧ Mp w r1 kStr (Mi f) ∧ Mp w r2 kInt (Mi d) ∧ r1 ≠ r2 ∧ (∀ k, k = g ∨ k = r1 ∨ k = r2 → F k) ∧ (∀ k, F k → k < w.heap.size)
theorem Lk.kp {S : Nat → Prop} {w w' : World} {g : Nat} {f : ByteArray → Option Int} {d : Int → Option Int} {F : Nat → Prop} (h : Lk w g f d F) (k : Kp S w w') (hd : ∀ i, F i → ¬ S i) : Lk w' g f d F := by
  obtain ⟨r1, r2, h1, h2, h3, h4, h5, h6⟩ := h
  exact ⟨r1, r2, h1.kp k (hd _ (h5 _ (.inl rfl))), h2.kp k (hd _ (h5 _ (.inr (.inl rfl)))), h3.kp k (hd _ (h5 _ (.inr (.inr rfl)))), h4, h5, fun i hi => Nat.lt_of_lt_of_le (h6 i hi) k.size⟩

theorem new_spec (w : World) : Cal Try.prog 7 #[] w fun v w' => ∃ g F, v = .pointer (some ⟨g, 0, none⟩) ∧ Lk w' g (fun _ => none) (fun _ => none) F ∧ Nf w F ∧ Nw w w' := by
  refine enter Try.mixed Try.func7 rfl (by kernel_rfl) ?_
  have hmk := fun (t : TypeId) (w : World) => run_makeMap (P := Try.prog) t w
  simp -dsimp [go_sem, hmk]
  simp [go_sem]
  have k1 : Nw w (w.alloc (.map #[] 0)) := (Kp.refl _ _).alloc _
  have k2 := k1.alloc (.map #[] 0)
  have k3 := k2.alloc (.cells #[.map (some w.heap.size), .map (some (w.heap.size + 1))] 60)
  have m1 : Mp (w.alloc (.map #[] 0)) w.heap.size kStr (Mi fun _ => none) := Mp.new w
  have m2 : Mp ((w.alloc (.map #[] 0)).alloc (.map #[] 0)) (w.heap.size + 1) kInt (Mi fun _ => none) := by
    have := Mp.new (κ := kInt) (w.alloc (.map #[] 0))
    rw [show (w.alloc (.map #[] 0)).heap.size = w.heap.size + 1 by simp] at this
    exact this
  refine ⟨fun k => w.heap.size ≤ k ∧ k < w.heap.size + 3, ⟨w.heap.size, w.heap.size + 1, Blk.fresh (by simp), ?_, ?_, by omega, ?_, ?_⟩, fun i h => h.1, k3⟩
  · exact (m1.kp ((Kp.refl (fun _ => False) _).alloc _) (fun h => h)).kp ((Kp.refl (fun _ => False) _).alloc _) (fun h => h)
  · exact m2.kp ((Kp.refl (fun _ => False) _).alloc _) (fun h => h)
  · rintro k (rfl | rfl | rfl) <;> omega
  · rintro k ⟨_, h⟩
    simp
    omega
/-- The holders behind a Take. -/
def takeF (f : ByteArray → Option Int) (u : ByteArray) (n : Int) : ByteArray → Option Int := if f u = none then fun x => if x = u then some n else f x else f
/-- May one have it? -/
def mayF (f : ByteArray → Option Int) (u : ByteArray) (n : Int) : Bool := match f u with | none => true | some c => decide (c = n)
theorem put_mi {α : Type} [DecidableEq α] (f : α → Option Int) (a : α) (n : Int) : put (Mi f) a (i64 n) = Mi (fun x => if x = a then some n else f x) := by
  funext b
  simp only [put, Mi]
  split <;> simp_all
theorem take_spec (g : Nat) (f : ByteArray → Option Int) (d : Int → Option Int) (F : Nat → Prop) (u : ByteArray) (n : Int) (w : World) (h : Lk w g f d F) :
    Cal Try.prog 13 #[.pointer (some ⟨g, 0, none⟩), .string u, i64 n] w fun v w' => v = .bool (mayF f u n) ∧ Lk w' g (takeF f u n) d F ∧ Kp F w w' := by
  obtain ⟨r1, r2, hb, hm1, hm2, hne, hF, hFl⟩ := id h
  have h0 := hb.cell 0
  have K : KeyS Try.prog 9 kStr := keyStr (by kernel_rfl)
  have hmt : Try.prog.underlying 57 = some (.map 9 3) := by kernel_rfl
  have hl := lookup_mp K hmt (z := i64 0) (w := w) rfl hm1 u true
  have hup := update_mp K hmt hm1 u (i64 n)
  have hgne : g ≠ r1 := by
    rintro rfl
    obtain ⟨E, c, hh, _⟩ := hm1
    unfold Blk at hb
    rw [hb] at hh; cases hh
  refine enter Try.mixed Try.func13 rfl (by kernel_rfl) ?_
  cases hfu : f u with
  | none =>
    have e : Mi f u = none := by simp [Mi, hfu]
    rw [e] at hl
    obtain ⟨w1, hu, hm, hk⟩ := hup
    simp -dsimp [go_sem, h0, hl, hu]
    refine ⟨by simp [mayF, hfu], ⟨r1, r2, hb.kp hk (fun e => hgne e), ?_, hm2.kp hk (fun e => hne e.symm), hne, hF, fun i hi => Nat.lt_of_lt_of_le (hFl i hi) hk.size⟩, hk.mono fun i _ e => hF _ (.inr (.inl e))⟩
    rw [put_mi] at hm
    simpa [takeF, hfu] using hm
  | some c =>
    have e : Mi f u = some (i64 c) := by simp [Mi, hfu]
    rw [e] at hl
    obtain ⟨w1, hu, hm, hk⟩ := hup
    by_cases hc : c = n
    · subst hc
      simp -dsimp [go_sem, h0, hl, hu]
      refine ⟨by simp [mayF, hfu], ⟨r1, r2, hb.kp hk (fun e => hgne e), ?_, hm2.kp hk (fun e => hne e.symm), hne, hF, fun i hi => Nat.lt_of_lt_of_le (hFl i hi) hk.size⟩, hk.mono fun i _ e => hF _ (.inr (.inl e))⟩
      rw [put_mi] at hm
      have e2 : (fun x => if x = u then some c else f x) = f := by
        funext x
        split
        · rename_i hx; rw [hx, hfu]
        · rfl
      rw [e2] at hm
      simpa [takeF, hfu] using hm
    · have hcn : (c != n) = true := by simpa using hc
      simp -dsimp [go_sem, h0, hl, hcn]
      refine ⟨by simp [mayF, hfu, hc], ?_, Kp.refl _ _⟩
      simpa [takeF, hfu] using h

theorem holder_spec (g : Nat) (f : ByteArray → Option Int) (d : Int → Option Int) (F : Nat → Prop) (u : ByteArray) (w : World) (h : Lk w g f d F) :
    Cal Try.prog 20 #[.pointer (some ⟨g, 0, none⟩), .string u] w fun v w' => v = .tuple #[i64 ((f u).getD 0), .bool (f u).isSome] ∧ w' = w := by
  obtain ⟨r1, r2, hb, hm1, hm2, hne, hF, hFl⟩ := id h
  have h0 := hb.cell 0
  have K : KeyS Try.prog 9 kStr := keyStr (by kernel_rfl)
  have hmt : Try.prog.underlying 57 = some (.map 9 3) := by kernel_rfl
  have hl := lookup_mp K hmt (z := i64 0) (w := w) rfl hm1 u true
  refine enter Try.mixed Try.func20 rfl (by kernel_rfl) ?_
  have e1 : (Mi f u).getD (i64 0) = i64 ((f u).getD 0) := by cases hfu : f u <;> simp [Mi, hfu]
  have e2 : (Mi f u).isSome = (f u).isSome := by cases hfu : f u <;> simp [Mi, hfu]
  rw [e1, e2] at hl
  simp -dsimp [go_sem, h0, hl]

/-- The holders behind a Free. -/
def freeF (f : ByteArray → Option Int) (n : Int) : ByteArray → Option Int := fun x => if f x = some n then none else f x
theorem cut_mi {α : Type} [DecidableEq α] (f : α → Option Int) (a : α) : cutM (Mi f) a = Mi (fun x => if x = a then none else f x) := by
  funext b
  simp only [cutM, Mi]
  split <;> simp_all
theorem free_spec (g : Nat) (f : ByteArray → Option Int) (d : Int → Option Int) (F : Nat → Prop) (n : Int) (w : World) (h : Lk w g f d F) :
    Cal Try.prog 15 #[.pointer (some ⟨g, 0, none⟩), i64 n] w fun v w' => v = .tuple #[] ∧ Lk w' g (freeF f n) d F ∧ Kp F w w' := by
  obtain ⟨r1, r2, hb, hm1, hm2, hne, hF, hFl⟩ := id h
  have h0 := hb.cell 0
  have K : KeyS Try.prog 9 kStr := keyStr (by kernel_rfl)
  have hmt : Try.prog.underlying 57 = some (.map 9 3) := by kernel_rfl
  have hgne : g ≠ r1 := by
    rintro rfl
    obtain ⟨E, c, hh, _⟩ := hm1
    unfold Blk at hb
    rw [hb] at hh; cases hh
  refine enter Try.mixed Try.func15 rfl (by kernel_rfl) ?_
  obtain ⟨w1, hrun, hR, hk1⟩ := range_mp hmt hm1
  simp -dsimp [go_sem, h0, hrun]
  obtain ⟨it, hit⟩ : ∃ it, it = w.heap.size := ⟨_, rfl⟩
  rw [← hit] at hR ⊢
  refine loop [4, 5, 13, 14, 15, 16, 17, 18, 19, 20, 21, 22, 23, 24, 25] (by kernel_rfl)
    (fun _ w' => Box (∃ (f' : ByteArray → Option Int) (left : ByteArray → Prop), Rg w' it r1 kStr (Mi f') left ∧ (∀ x, left x → f' x = f x) ∧ (∀ x, ¬ left x → f' x = freeF f n x) ∧ Kp (At r1) w w')) (fun _ w' => rgN w' it r1)
    ⟨f, fun _ => True, hR, fun _ _ => rfl, fun _ h => absurd trivial h, hk1.kp _⟩ ?_
  rintro s w' ⟨f', left, hR, hl1, hl2, hK⟩
  have hb' := hb.kp hK (fun e => hgne e)
  rcases next_rg (P := Try.prog) K.inj hR 0 with ⟨hend, hnext⟩ | ⟨a, v, w2, ha, hla, hnext, hR2, hK2, hN2, hentry⟩
  · simp -dsimp [go_sem, hnext]
    have hf : f' = freeF f n := by
      funext x
      by_cases hx : left x
      · have h1 := hl1 x hx
        cases hfx : f x with
        | none => simp [h1, freeF, hfx]
        | some c => exact absurd hx (hend x (i64 c) (by simp [Mi, h1, hfx]))
      · exact hl2 x hx
    subst hf
    exact ⟨⟨r1, r2, hb', hR.mp, hm2.kp hK (fun e => hne e.symm), hne, hF, fun i hi => Nat.lt_of_lt_of_le (hFl i hi) hK.size⟩, hK.mono fun i _ e => hF _ (.inr (.inl e))⟩
  · have hfa := hl1 a hla
    obtain ⟨c, hc⟩ : ∃ c, f a = some c := by
      cases hfx : f a with
      | none => simp [Mi, hfa, hfx] at ha
      | some c => exact ⟨c, rfl⟩
    have hv : v = i64 c := by
      simp [Mi, hfa, hc] at ha
      exact ha.symm
    subst hv
    have hK2' : Kp (At r1) w w2 := hK.trans hK2 fun i hi (e : i = it) => by omega
    have hb2 := hb.kp hK2' (fun e => hgne e)
    have h2 := hb2.cell 0
    by_cases hcn : c = n
    · subst hcn
      obtain ⟨w3, hdel, hR3, hK3, hN3⟩ := delete_rg (ty := 0) K hmt hR2 a
      have hdel' : deleteS Try.prog #[57, 9] 0 #[.map (some r1), kStr a] w2 = .ok (.tuple #[]) w3 := hdel
      rw [cut_mi] at hR3
      simp -dsimp [go_sem, hnext, hentry, h2, hdel']
      refine ⟨⟨_, _, hR3, fun x hx => ?_, fun x hx => ?_, hK2'.trans hK3 fun _ _ h => h⟩, by omega⟩
      · show (if x = a then none else f' x) = f x
        rw [if_neg hx.2]
        exact hl1 x hx.1
      · show (if x = a then none else f' x) = _
        by_cases hxa : x = a
        · rw [if_pos hxa, hxa]
          simp [freeF, hc]
        · rw [if_neg hxa]
          exact hl2 x fun hl => hx ⟨hl, hxa⟩
    · have hcn' : (c == n) = false := by simpa using hcn
      simp -dsimp [go_sem, hnext, hentry, hcn']
      refine ⟨⟨f', _, hR2, fun x hx => hl1 x hx.1, fun x hx => ?_, hK2'⟩, hN2⟩
      by_cases hx' : left x
      · have hxa : x = a := by
          by_cases hxa : x = a
          · exact hxa
          · exact absurd ⟨hx', hxa⟩ hx
        subst hxa
        rw [hfa, hc]
        simp [freeF, hc, hcn]
      · exact hl2 x hx'
end Go.Proofs.Ytfdbnlgokaapnaa
