/-
  each, Sync, Remove of a disk walked. By the session itself.
-/
import Derived.Test.YthonmjgagblogaaGreatDkC
namespace Go.Proofs.YthonmjgagblogaaGreat
set_option linter.unusedSimpArgs false
set_option linter.unusedVariables false
set_option maxRecDepth 100000
set_option maxHeartbeats 1000000
open Go.Vc Go.RowKit

def dStep (f : Dsk → Nm → Fil → Dsk) (D : Dsk) (s : Nm) : Dsk × Nat :=
  if mayL D [s] ≠ 0 then (D, mayL D [s]) else match tLook D.fs s with
    | none => (D, 7)
    | some x => ((f D s x).done, 0)
def dEach (f : Dsk → Nm → Fil → Dsk) : Dsk → List Nm → Dsk × Nat
  | D, [] => (D, 0)
  | D, s :: r => if (dStep f D s).2 ≠ 0 then dStep f D s else dEach f (dStep f D s).1 r
def fSync (D : Dsk) (s : Nm) (x : Fil) : Dsk := { D with fs := tLay D.fs s ⟨x.b, x.b.length⟩ }
def fRemove (D : Dsk) (s : Nm) (_ : Fil) : Dsk := { D with fs := tGone D.fs s }

theorem Gr.tr {F F' F'' : Nat → Prop} {a b c : World} (h : Gr F F' a b) (k : Gr F' F'' b c) (h1 : a.heap.size ≤ b.heap.size) (h2 : b.heap.size ≤ c.heap.size) : Gr F F'' a c := h.trans k h1 h2
theorem mayL_ok {D : Dsk} {ns : List Nm} (h : mayL D ns = 0) : D.left ≠ some 0 := fun e => by
  unfold mayL at h
  rw [if_pos e] at h
  cases h
/-- What a thing done with a file comes to. -/
def DoesF (k : FuncId) (bd : Array Value) (f : Dsk → Nm → Fil → Dsk) (g : Nat) (Q : (Nat → Prop) → World → Prop) : Prop :=
  ∀ (D : Dsk) (s : Nm) (x : Fil) (F : Nat → Prop) (w : World) (r : Nat) (z : Int) (ptr : Nm → Nat) (Fs : Nm → Nat → Prop), D.Ok → DkM w g D F r z ptr Fs → Q F w → tLook D.fs s = some x →
    Cal Tryz.prog k (#[str s, .pointer (some ⟨ptr s, 0, none⟩)] ++ bd) w fun v w' => (f D s x).left = D.left ∧ ∃ F', Dk w' g (f D s x) F' ∧ Gr F F' w w' ∧ Kp F w w'

theorem each_spec (k : FuncId) (hgo : isGo Tryz.prog k = true) (bd : Array Value) (f : Dsk → Nm → Fil → Dsk) (Q : (Nat → Prop) → World → Prop) (g : Nat) (hQ : ∀ F F' w w', Q F w → Kp F w w' → Gr F F' w w' → Q F' w') (hcl : DoesF k bd f g Q)
    (ns : List Nm) (A : Option Addr) (c : Nat) (D : Dsk) (F : Nat → Prop) (w : World) (h : Dk w g D F) (hq : Q F w) (hr : Rd w A (ns.map fun s => str s)) (hA : Ofl A (ns.map fun s => str s) F) (hl : ns.length ≤ 140737488355328) (hs : ∀ s ∈ ns, s.length ≤ 9223372036854775807) :
    Cal Tryz.prog 77 #[.pointer (some ⟨g, 0, none⟩), .slice A ns.length c, .func (.func k) #[] bd] w fun v w' => v = i64 (dEach f D ns).2 ∧ ∃ F', Dk w' g (dEach f D ns).1 F' ∧ Gr F F' w w' ∧ Kp F w w' := by
  have K : KeyS Tryz.prog 9 (fun s : Nm => str s) := keyL (by kernel_rfl)
  have hmt : Tryz.prog.underlying 38 = some (.map 9 47) := by kernel_rfl
  have hcv := fun (args : Array Value) (w : World) (K : Value → World → Prop) (j : Stop K) => callV_func hgo #[] bd args w K j
  refine enter Tryz.mixed Tryz.func77 rfl (by kernel_rfl) ?_
  simp -dsimp [go_sem]
  refine loop [6, 8, 9, 10, 15, 16, 17, 18, 19, 20, 21, 22, 23, 24, 25, 26, 27, 28, 29, 30, 31, 32, 33, 34, 35, 36, 37, 38, 39, 40] (by kernel_rfl)
    (fun s w' => Box1 (fun a w' => ∃ (i : Nat) (Di : Dsk) (Fi : Nat → Prop), i ≤ ns.length ∧ a = i64 i ∧ dEach f D ns = dEach f Di (ns.drop i) ∧ Dk w' g Di Fi ∧ Q Fi w' ∧ Gr F Fi w w' ∧ Kp F w w') (s 15) w')
    (fun s _ => ns.length - (intOf (s 15)).toNat) ⟨0, D, F, Nat.zero_le _, rfl, rfl, h, hq, Gr.refl _ _, Kp.refl _ _⟩ ?_
  rintro s0 w1 ⟨i, Di, Fi, hi, s15, hE, hD, hQi, hG, hK⟩
  simp -dsimp [go_sem, s15]
  refine cond_d (fun hlt => ?_) (fun hlt => ?_)
  · have hlt : i < ns.length := by omega
    obtain ⟨b, o, rfl, hc⟩ := (hr.kp hK hA) i (str ns[i]) (by simp [hlt])
    have hsl := hs ns[i] (List.getElem_mem hlt)
    rw [List.drop_eq_getElem_cons hlt] at hE
    obtain ⟨s, hs'⟩ : ∃ s, s = ns[i] := ⟨_, rfl⟩
    rw [← hs'] at hc hE hsl
    simp -dsimp [go_sem, s15, hlt, hc]
    have ka : Nw w1 (w1.alloc (.cells #[str s] 9)) := (Kp.refl _ _).alloc _
    refine call (may_spec [s] (some ⟨w1.heap.size, 0, none⟩) 1 g Di Fi _ (hD.nw ka) (Rd.fresh rfl rfl) (by simp) (by simpa using hsl)) ?_
    rintro v w2 ⟨rfl, rfl⟩
    have hst : dStep f Di s = if mayL Di [s] ≠ 0 then (Di, mayL Di [s]) else match tLook Di.fs s with
        | none => (Di, 7)
        | some x => ((f Di s x).done, 0) := rfl
    have hmz := @mayL_ok Di [s]
    obtain ⟨e, he⟩ : ∃ e, e = mayL Di [s] := ⟨_, rfl⟩
    rw [← he] at hst hmz ⊢
    have hKa : Kp F w (w1.alloc (.cells #[str s] 9)) := Kp.nw hK ka
    have hGa : Gr F Fi w (w1.alloc (.cells #[str s] 9)) := Gr.wide hG (Nat.le_refl _) ka.size
    by_cases h0 : e = 0
    · subst h0
      have hmz := hmz rfl
      rw [if_neg (fun h => h rfl)] at hst
      obtain ⟨ok, r, z, ptr, Fs, hM⟩ := id (hD.nw ka)
      have g1 := hM.blk.cell 1
      have hlk := lookup_mp K hmt (z := .pointer none) (w := w1.alloc (.cells #[str s] 9)) rfl hM.mp s false
      cases hx : tLook Di.fs s with
      | none =>
        have hm1 : Mf ptr Di.fs s = none := by simp [Mf, hx]
        rw [hm1] at hlk
        rw [hx] at hst
        simp -dsimp [go_sem, g1, hlk]
        rw [hE]
        simp only [dEach, hst]
        exact ⟨rfl, Fi, hD.nw ka, hGa, hKa⟩
      | some x =>
        have hm1 : Mf ptr Di.fs s = some (.pointer (some ⟨ptr s, 0, none⟩)) := by simp [Mf, hx]
        rw [hm1] at hlk
        rw [hx] at hst
        have hQa := hQ Fi Fi _ _ hQi (ka.kp Fi) fun k h => .inl h
        simp -dsimp [go_sem, g1, hlk, hcv]
        refine call (hcl Di s x Fi _ r z ptr Fs ok hM hQa hx) ?_
        rintro v w3 ⟨hleft, F3, hD3, hG3, hK3⟩
        have hQ3 := hQ _ _ _ _ hQa hK3 hG3
        simp -dsimp [go_sem]
        refine call (done_spec g _ _ _ hD3 (by rw [hleft]; exact hmz)) ?_
        rintro v w4 ⟨rfl, hD4, hk4⟩
        have hF3g : F3 g := by
          obtain ⟨_, _, _, _, _, h⟩ := hD3
          exact h.fg
        have hK4 : Kp F3 w3 w4 := hk4.mono fun j _ (e : j = g) => e ▸ hF3g
        have hQ4 := hQ _ F3 _ _ hQ3 hK4 fun k h => .inl h
        have hk1 : IntKind.i64.wrap ((i : Int) + 1) = ((i + 1 : Nat) : Int) := w64 (by omega) (by omega)
        have hE4 : dEach f D ns = dEach f (f Di s x).done (ns.drop (i + 1)) := by
          rw [hE]
          simp only [dEach, hst]
          rw [if_neg (fun h => h rfl)]
        obtain ⟨k1, hk1'⟩ : ∃ k1, k1 = i + 1 := ⟨_, rfl⟩
        rw [← hk1'] at hk1 hE4
        simp -dsimp [go_sem, s15, hk1]
        have hG13 := Gr.trans hGa hG3 hKa.size hK3.size
        exact ⟨⟨k1, _, F3, by omega, rfl, hE4, hD4, hQ4, Gr.wide hG13 (Nat.le_refl _) hk4.size, (Kp.gr hKa hGa hK3).gr hG13 hK4⟩, by simp [intOf]; omega⟩
    · have h0' : ((e : Int) != 0) = true := by simp; omega
      rw [if_pos h0] at hst
      simp -dsimp [go_sem, h0']
      rw [hE]
      simp only [dEach, hst]
      rw [if_pos h0]
      exact ⟨rfl, Fi, hD.nw ka, hGa, hKa⟩
  · obtain rfl : i = ns.length := by omega
    rw [List.drop_length] at hE
    simp -dsimp [go_sem]
    rw [hE]
    exact ⟨rfl, Fi, hD, hG, hK⟩
/-- A file's own block has turned, or what it reads of its bytes. -/
theorem DkM.reset {w w' : World} {g : Nat} {D : Dsk} {F : Nat → Prop} {r : Nat} {z : Int} {ptr : Nm → Nat} {Fs : Nm → Nat → Prop} (ok : D.Ok) (h : DkM w g D F r z ptr Fs) {s : Nm} {x : Fil} (hx : tLook D.fs s = some x) (f : Fil) (v : Value) (G : Nat → Prop)
    (hk : Kp (At (ptr s)) w w') (hb : Blk w' (ptr s) 50 #[v, i64 f.l]) (hB : Bf w' v f.b G) (hG : ∀ k, G k → Fs s k) (hn : ¬ G (ptr s)) (h1 : f.l ≤ f.b.length) (h2 : f.b.length ≤ x.b.length) :
    ∃ F', Dk w' g { D with fs := tLay D.fs s f } F' ∧ Gr F F' w w' ∧ Kp F w w' := by
  have hm1 : Mf ptr D.fs s = some (.pointer (some ⟨ptr s, 0, none⟩)) := by simp [Mf, hx]
  have hps : Fs s (ptr s) := by
    obtain ⟨u, G', _, _, _, hin, _⟩ := h.files s x hx
    exact hin _ (.inl rfl)
  have hrp : r ≠ ptr s := fun e => (h.inn s r (e ▸ hps)).2.2 rfl
  have hu := ok.used
  exact ⟨_, Dk.turned ok h s f (ptr s) (fun k => k = ptr s ∨ G k) (hk.mono fun i _ (e : i = ptr s) => .inl (e ▸ hps)) (by rw [put_self hm1]; exact h.mp.kp hk hrp)
    ⟨v, G, hb, hB, hn, fun k h => h, fun k hk => hk.elim (fun e => e ▸ hb.lt) (hB.lt k)⟩ (fun k hk => .inl (hk.elim (fun e => e ▸ hps) (hG k))) h1 (by rw [hx]; show D.used + f.b.length ≤ D.room + x.b.length; omega) (by rw [hx]; intro h; cases h) (ok.names s x hx)⟩
theorem sync1 (g : Nat) : DoesF 78 #[] fSync g (fun _ _ => True) := by
  intro D s x F w r z ptr Fs ok h _ hx
  obtain ⟨u, G, hb, hBf, hnG, hin, hlt⟩ := h.files s x hx
  obtain ⟨A, c, rfl, ho, ho1, ho2⟩ := id hBf
  have h0 := hb.cell 0
  have h1 := hb.cell 1
  have hf := hb.frozen 1
  refine enter Tryz.mixed Tryz.func78 rfl (by kernel_rfl) ?_
  simp -dsimp [go_sem, h0, h1, hf]
  have hset : Kp (At (ptr s)) w (w.setCell ⟨ptr s, 1, none⟩ (i64 x.b.length)) := (Kp.refl _ _).setCell_at _ _
  exact ⟨rfl, h.reset ok hx ⟨x.b, x.b.length⟩ _ G hset (Blk.set0 hb _ _ rfl) (hBf.kp hset fun i hi (e : i = ptr s) => hnG (e ▸ hi)) (fun k hk => hin _ (.inr hk)) hnG (Nat.le_refl _) (Nat.le_refl _)⟩

theorem Mf_gone (ptr : Nm → Nat) {fs : List (Nm × Fil)} (hs : Srt fs) (s : Nm) : Mf ptr (tGone fs s) = cutM (Mf ptr fs) s := by
  funext t
  simp only [Mf, cutM, tLook_gone hs]
  split
  · rfl
  · rfl
theorem Dsk.Ok.rem {D : Dsk} (h : D.Ok) (s : Nm) : Dsk.Ok { D with fs := tGone D.fs s } := by
  have hs := sumv_gone D.fs (fun f : Fil => f.b.length) s
  have hu : D.used = sumv (fun f : Fil => f.b.length) D.fs := rfl
  have hused := h.used
  have hl := gone_len D.fs s
  have hm := h.many
  refine ⟨h.srt.tGone s, h.room, by unfold Dsk.used; simp only; omega, ?_, fun t x hx => ?_, h.left, fun t x hx => ?_⟩
  · simp only
    rw [hl]
    split <;> omega
  · simp only [tLook_gone h.srt] at hx
    split at hx
    · cases hx
    · exact h.lasts t x hx
  · simp only [tLook_gone h.srt] at hx
    split at hx
    · cases hx
    · exact h.names t x hx
theorem remove1 (g bx : Nat) : DoesF 87 #[.pointer (some ⟨bx, 0, none⟩)] fRemove g (fun F w => w.cell? ⟨bx, 0, none⟩ = some (.pointer (some ⟨g, 0, none⟩)) ∧ ¬ F bx) := by
  intro D s x F w r z ptr Fs ok h hq hx
  obtain ⟨hq, _⟩ := hq
  have K : KeyS Tryz.prog 9 (fun s : Nm => str s) := keyL (by kernel_rfl)
  have hmt : Tryz.prog.underlying 38 = some (.map 9 47) := by kernel_rfl
  have h1 := h.blk.cell 1
  obtain ⟨w1, hdel, hm1, hk1⟩ := delete_mp (ty := 0) K hmt h.mp s
  have hdel' : deleteS Tryz.prog #[38, 9] 0 #[.map (some r), str s] w = .ok (.tuple #[]) w1 := hdel
  refine enter Tryz.mixed Tryz.func87 rfl (by kernel_rfl) ?_
  simp -dsimp [go_sem, hq, h1, hdel']
  have hng : ∀ i, (∃ t, Fs t i) ∨ i = g → i ≠ r := fun i hi e => by
    rcases hi with ⟨t, ht⟩ | hi
    · exact (h.inn t i ht).2.2 e
    · exact h.ne (hi.symm.trans e)
  refine ⟨rfl, F, ⟨ok.rem s, r, z, ptr, Fs, h.blk.kp hk1 (hng g (.inr rfl)), h.left, by rw [show (fRemove D s x).fs = tGone D.fs s from rfl, Mf_gone ptr ok.srt]; exact hm1, fun t y hy => ?_, h.apart, h.inn, h.ne, h.fg, h.fr, fun i hi => Nat.lt_of_lt_of_le (h.lt i hi) hk1.size⟩, fun k h => .inl h, hk1.mono fun i _ (e : i = r) => e ▸ h.fr⟩
  rw [show (fRemove D s x).fs = tGone D.fs s from rfl, tLook_gone ok.srt] at hy
  split at hy
  · cases hy
  · exact (h.files t y hy).kp hk1 fun i hi e => hng i (.inl ⟨t, hi⟩) e

theorem dsync_spec (ns : List Nm) (A : Option Addr) (c g : Nat) (D : Dsk) (F : Nat → Prop) (w : World) (h : Dk w g D F) (hr : Rd w A (ns.map fun s => str s)) (hA : Ofl A (ns.map fun s => str s) F) (hl : ns.length ≤ 140737488355328) (hs : ∀ s ∈ ns, s.length ≤ 9223372036854775807) :
    Cal Tryz.prog 48 #[.pointer (some ⟨g, 0, none⟩), .slice A ns.length c] w fun v w' => v = i64 (dEach fSync D ns).2 ∧ ∃ F', Dk w' g (dEach fSync D ns).1 F' ∧ Gr F F' w w' ∧ Kp F w w' := by
  refine enter Tryz.mixed Tryz.func48 rfl (by kernel_rfl) ?_
  simp -dsimp [go_sem]
  refine call (each_spec 78 (by kernel_rfl) #[] fSync (fun _ _ => True) g (fun _ _ _ _ _ _ _ => trivial) (sync1 g) ns A c D F w h trivial hr hA hl hs) ?_
  rintro v w' ⟨rfl, h⟩
  simp -dsimp [go_sem]
  exact h
theorem dremove_spec (ns : List Nm) (A : Option Addr) (c g : Nat) (D : Dsk) (F : Nat → Prop) (w : World) (h : Dk w g D F) (hr : Rd w A (ns.map fun s => str s)) (hA : Ofl A (ns.map fun s => str s) F) (hl : ns.length ≤ 140737488355328) (hs : ∀ s ∈ ns, s.length ≤ 9223372036854775807) :
    Cal Tryz.prog 64 #[.pointer (some ⟨g, 0, none⟩), .slice A ns.length c] w fun v w' => v = i64 (dEach fRemove D ns).2 ∧ ∃ F', Dk w' g (dEach fRemove D ns).1 F' ∧ Gr F F' w w' ∧ Kp F w w' := by
  refine enter Tryz.mixed Tryz.func64 rfl (by kernel_rfl) ?_
  simp -dsimp [go_sem]
  have ka : Nw w (w.alloc (.cells #[.pointer (some ⟨g, 0, none⟩)] 23)) := (Kp.refl _ _).alloc _
  have hba : Blk (w.alloc (.cells #[.pointer (some ⟨g, 0, none⟩)] 23)) w.heap.size 23 #[.pointer (some ⟨g, 0, none⟩)] := Blk.new _ _ _
  have hc := hba.cell 0
  have hlt := h.lt
  have hcs : (w.alloc (.cells #[.pointer (some ⟨g, 0, none⟩)] 23)).cell? ⟨w.heap.size, 0, none⟩ = some (.pointer (some ⟨g, 0, none⟩)) := by rw [hc]; rfl
  refine call (each_spec 87 (by kernel_rfl) #[.pointer (some ⟨w.heap.size, 0, none⟩)] fRemove (fun F w' => w'.cell? ⟨w.heap.size, 0, none⟩ = some (.pointer (some ⟨g, 0, none⟩)) ∧ ¬ F w.heap.size) g ?_ (remove1 g _) ns A c D F _ (h.nw ka) ⟨hcs, fun e => Nat.lt_irrefl _ (hlt _ e)⟩ (hr.nw ka) hA hl hs) ?_
  · intro F1 F2 a b ⟨h1, h2⟩ hk hG
    refine ⟨hk.cell_some h1 h2, fun e => ?_⟩
    rcases hG _ e with e | e
    · exact h2 e
    · have := World.block_lt_of_cell? a _ h1
      have h3 : w.heap.size < a.heap.size := this
      omega
  · rintro v w' ⟨rfl, F', h1, h2, h3⟩
    simp -dsimp [go_sem]
    exact ⟨F', h1, Gr.wide h2 ka.size (Nat.le_refl _), (ka.kp F).trans h3 fun _ _ h => h⟩
end Go.Proofs.YthonmjgagblogaaGreat
