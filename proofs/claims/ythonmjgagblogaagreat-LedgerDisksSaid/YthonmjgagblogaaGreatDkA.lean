/-
  A disk in memory: what it is; its small functions: may, done, Used. By the session itself.
-/
import Derived.Test.YthonmjgagblogaaGreatAs
import Derived.Test.YthonmjgagblogaaGreatMp
import Derived.Test.YthonmjgagblogaaGreatClone
import Derived.Test.YthonmjgagblogaaGreatJoin
namespace Go.Proofs.YthonmjgagblogaaGreat
set_option linter.unusedSimpArgs false
set_option linter.unusedVariables false
set_option maxRecDepth 100000
set_option maxHeartbeats 1000000
open Go.Vc Go.RowKit

/-- A file: its bytes, and how many of them last. -/
structure Fil where
  b : List UInt8
  l : Nat
/-- A disk: its room, its files, what a fuse lets be done. -/
structure Dsk where
  room : Nat
  fs : List (Nm × Fil)
  left : Option Nat
def Dsk.used (D : Dsk) : Nat := sumv (fun f => f.b.length) D.fs
structure Dsk.Ok (D : Dsk) : Prop where
  srt : Srt D.fs
  room : D.room ≤ 1073741824
  used : D.used ≤ D.room
  many : D.fs.length ≤ 4096
  lasts : ∀ s f, tLook D.fs s = some f → f.l ≤ f.b.length
  left : ∀ n, D.left = some n → n ≤ 9223372036854775807
  names : ∀ s x, tLook D.fs s = some x → s.length ≤ 64
/-- The pointers to files. -/
def Mf (ptr : Nm → Nat) (fs : List (Nm × Fil)) : Nm → Option Value := fun s => (tLook fs s).map fun _ => .pointer (some ⟨ptr s, 0, none⟩)
/-- Block p is a file; all of it lies in F. -/
def FileAt (w : World) (p : Nat) (f : Fil) (F : Nat → Prop) : Prop := ∃ v G, Blk w p 50 #[v, i64 f.l] ∧ Bf w v f.b G ∧ ¬ G p ∧ (∀ k, k = p ∨ G k → F k) ∧ (∀ k, F k → k < w.heap.size)
structure DkM (w : World) (g : Nat) (D : Dsk) (F : Nat → Prop) (r : Nat) (z : Int) (ptr : Nm → Nat) (Fs : Nm → Nat → Prop) : Prop where
  blk : Blk w g 40 #[i64 D.room, .map (some r), .bool D.left.isSome, i64 z]
  left : ∀ n, D.left = some n → z = n
  mp : Mp w r (fun l => str l) (Mf ptr D.fs)
  files : ∀ s f, tLook D.fs s = some f → FileAt w (ptr s) f (Fs s)
  apart : ∀ s t k, s ≠ t → Fs s k → ¬ Fs t k
  inn : ∀ s k, Fs s k → F k ∧ k ≠ g ∧ k ≠ r
  ne : g ≠ r
  fg : F g
  fr : F r
  lt : ∀ k, F k → k < w.heap.size
/-- Block g is a disk; all of it lies in F. -/
def Dk (w : World) (g : Nat) (D : Dsk) (F : Nat → Prop) : Prop := D.Ok ∧ ∃ r z ptr Fs, DkM w g D F r z ptr Fs

theorem FileAt.kp {S : Nat → Prop} {w w' : World} {p : Nat} {f : Fil} {F : Nat → Prop} (h : FileAt w p f F) (k : Kp S w w') (hd : ∀ i, F i → ¬ S i) : FileAt w' p f F := by
  obtain ⟨v, G, h1, h2, h3, h4, h5⟩ := h
  exact ⟨v, G, h1.kp k (hd _ (h4 _ (.inl rfl))), h2.kp k (fun i hi => hd _ (h4 _ (.inr hi))), h3, h4, fun i hi => Nat.lt_of_lt_of_le (h5 i hi) k.size⟩
theorem DkM.kp {S : Nat → Prop} {w w' : World} {g : Nat} {D : Dsk} {F : Nat → Prop} {r : Nat} {z : Int} {ptr : Nm → Nat} {Fs : Nm → Nat → Prop} (h : DkM w g D F r z ptr Fs) (k : Kp S w w') (hd : ∀ i, F i → ¬ S i) : DkM w' g D F r z ptr Fs :=
  ⟨h.blk.kp k (hd _ h.fg), h.left, h.mp.kp k (hd _ h.fr), fun s f hf => (h.files s f hf).kp k fun i hi => hd _ (h.inn s i hi).1, h.apart, h.inn, h.ne, h.fg, h.fr, fun i hi => Nat.lt_of_lt_of_le (h.lt i hi) k.size⟩
theorem Dk.kp {S : Nat → Prop} {w w' : World} {g : Nat} {D : Dsk} {F : Nat → Prop} (h : Dk w g D F) (k : Kp S w w') (hd : ∀ i, F i → ¬ S i) : Dk w' g D F := by
  obtain ⟨ok, r, z, ptr, Fs, h⟩ := h
  exact ⟨ok, r, z, ptr, Fs, h.kp k hd⟩
theorem Dk.nw {w w' : World} {g : Nat} {D : Dsk} {F : Nat → Prop} (h : Dk w g D F) (k : Nw w w') : Dk w' g D F := h.kp k fun _ _ h => h
theorem Dk.lt {w : World} {g : Nat} {D : Dsk} {F : Nat → Prop} (h : Dk w g D F) : ∀ k, F k → k < w.heap.size := by
  obtain ⟨_, _, _, _, _, h⟩ := h
  exact h.lt
theorem Dk.ok {w : World} {g : Nat} {D : Dsk} {F : Nat → Prop} (h : Dk w g D F) : D.Ok := h.1

/-- Does a name, or a fuse, forbid it? -/
def badN (s : Nm) : Bool := decide (s.length < 1) || decide (64 < s.length)
def mayL (D : Dsk) (ns : List Nm) : Nat := if D.left = some 0 then 9 else if ns.any badN then 1 else 0
def Dsk.done (D : Dsk) : Dsk := { D with left := D.left.map (· - 1) }

theorem may_spec (ns : List Nm) (A : Option Addr) (c : Nat) (g : Nat) (D : Dsk) (F : Nat → Prop) (w : World) (h : Dk w g D F) (hr : Rd w A (ns.map fun s => str s)) (hl : ns.length ≤ 140737488355328) (hs : ∀ s ∈ ns, s.length ≤ 9223372036854775807) :
    Cal Tryz.prog 10 #[.pointer (some ⟨g, 0, none⟩), .slice A ns.length c] w fun v w' => v = i64 (mayL D ns) ∧ w' = w := by
  obtain ⟨ok, r, z, ptr, Fs, h⟩ := h
  have h2 := h.blk.cell 2
  have h3 := h.blk.cell 3
  have fin : ∀ (hz : D.left ≠ some 0), mayL D ns = if ns.any badN then 1 else 0 := fun hz => by unfold mayL; rw [if_neg hz]
  refine enter Tryz.mixed Tryz.func10 rfl (by kernel_rfl) ?_
  cases hd : D.left with
  | none =>
    have hz : D.left ≠ some 0 := by rw [hd]; simp
    rw [hd] at h2
    simp -dsimp [go_sem, h2, h3]
    refine loop [4, 6, 24, 25, 26, 27, 28, 29, 30, 31, 32, 33, 34, 35, 36] (by kernel_rfl) (fun f w' => Box1 (fun a w' => ∃ i : Nat, i ≤ ns.length ∧ a = i64 i ∧ (ns.take i).any badN = false ∧ w' = w) (f 24) w') (fun f _ => ns.length - (intOf (f 24)).toNat) ⟨0, Nat.zero_le _, rfl, rfl, rfl⟩ ?_
    rintro f w' ⟨i, hi, f24, hb, rfl⟩
    simp -dsimp [go_sem, f24]
    refine cond_d (fun hlt => ?_) (fun hlt => ?_)
    · have hlt : i < ns.length := by omega
      obtain ⟨b, o, rfl, hc⟩ := hr i (str ns[i]) (by simp [hlt])
      have hsl := hs ns[i] (List.getElem_mem hlt)
      have htk : (ns.take (i + 1)).any badN = badN ns[i] := by
        rw [List.take_succ_eq_append_getElem hlt, List.any_append, hb]
        simp
      have hmem := List.getElem_mem hlt
      obtain ⟨s, hs'⟩ : ∃ s, s = ns[i] := ⟨_, rfl⟩
      rw [← hs'] at hc htk hsl hmem
      have bad : badN s = true → mayL D ns = 1 := fun hbs => by
        rw [fin hz, if_pos]
        exact List.any_eq_true.2 ⟨s, hmem, hbs⟩
      by_cases h1 : s.length < 1
      · have h1' : (s.length : Int) < 1 := by omega
        simp -dsimp [go_sem, f24, hlt, hc, h1, h1']
        rw [bad (by simp [badN, h1])]
        rfl
      · have h1' : ¬ (s.length : Int) < 1 := by omega
        by_cases h64 : 64 < s.length
        · have h64' : (64 : Int) < (s.length : Int) := by omega
          simp -dsimp [go_sem, f24, hlt, hc, h1, h1', h64, h64']
          rw [bad (by simp [badN, h64])]
          rfl
        · have h64' : ¬ (64 : Int) < (s.length : Int) := by omega
          have hk1 : IntKind.i64.wrap ((i : Int) + 1) = ((i + 1 : Nat) : Int) := w64 (by omega) (by omega)
          obtain ⟨k1, hk1'⟩ : ∃ k1, k1 = i + 1 := ⟨_, rfl⟩
          rw [← hk1'] at hk1 htk
          simp -dsimp [go_sem, f24, hlt, hc, h1, h1', h64, h64', hk1]
          refine ⟨⟨k1, by omega, rfl, ?_, rfl⟩, by simp [intOf]; omega⟩
          rw [htk]
          simp [badN, h1, h64]
    · obtain rfl : i = ns.length := by omega
      rw [List.take_length] at hb
      simp -dsimp [go_sem]
      rw [fin hz, hb]
      rfl
  | some n =>
    have hzn := h.left n hd
    rw [hd] at h2
    by_cases h0 : n = 0
    · subst h0
      have hz0 : z = 0 := by simpa using hzn
      subst hz0
      simp -dsimp [go_sem, h2, h3]
      unfold mayL
      rw [if_pos hd]
      rfl
    · have hz : D.left ≠ some 0 := by rw [hd]; simpa using h0
      have hz0 : (z == 0) = false := by rw [beq_eq_false_iff_ne]; omega
      simp -dsimp [go_sem, h2, h3, hz0]
      refine loop [4, 6, 24, 25, 26, 27, 28, 29, 30, 31, 32, 33, 34, 35, 36] (by kernel_rfl) (fun f w' => Box1 (fun a w' => ∃ i : Nat, i ≤ ns.length ∧ a = i64 i ∧ (ns.take i).any badN = false ∧ w' = w) (f 24) w') (fun f _ => ns.length - (intOf (f 24)).toNat) ⟨0, Nat.zero_le _, rfl, rfl, rfl⟩ ?_
      rintro f w' ⟨i, hi, f24, hb, rfl⟩
      simp -dsimp [go_sem, f24]
      refine cond_d (fun hlt => ?_) (fun hlt => ?_)
      · have hlt : i < ns.length := by omega
        obtain ⟨b, o, rfl, hc⟩ := hr i (str ns[i]) (by simp [hlt])
        have hsl := hs ns[i] (List.getElem_mem hlt)
        have htk : (ns.take (i + 1)).any badN = badN ns[i] := by
          rw [List.take_succ_eq_append_getElem hlt, List.any_append, hb]
          simp
        have hmem := List.getElem_mem hlt
        obtain ⟨s, hs'⟩ : ∃ s, s = ns[i] := ⟨_, rfl⟩
        rw [← hs'] at hc htk hsl hmem
        have bad : badN s = true → mayL D ns = 1 := fun hbs => by
          rw [fin hz, if_pos]
          exact List.any_eq_true.2 ⟨s, hmem, hbs⟩
        by_cases h1 : s.length < 1
        · have h1' : (s.length : Int) < 1 := by omega
          simp -dsimp [go_sem, f24, hlt, hc, h1, h1']
          rw [bad (by simp [badN, h1])]
          rfl
        · have h1' : ¬ (s.length : Int) < 1 := by omega
          by_cases h64 : 64 < s.length
          · have h64' : (64 : Int) < (s.length : Int) := by omega
            simp -dsimp [go_sem, f24, hlt, hc, h1, h1', h64, h64']
            rw [bad (by simp [badN, h64])]
            rfl
          · have h64' : ¬ (64 : Int) < (s.length : Int) := by omega
            have hk1 : IntKind.i64.wrap ((i : Int) + 1) = ((i + 1 : Nat) : Int) := w64 (by omega) (by omega)
            obtain ⟨k1, hk1'⟩ : ∃ k1, k1 = i + 1 := ⟨_, rfl⟩
            rw [← hk1'] at hk1 htk
            simp -dsimp [go_sem, f24, hlt, hc, h1, h1', h64, h64', hk1]
            refine ⟨⟨k1, by omega, rfl, ?_, rfl⟩, by simp [intOf]; omega⟩
            rw [htk]
            simp [badN, h1, h64]
      · obtain rfl : i = ns.length := by omega
        rw [List.take_length] at hb
        simp -dsimp [go_sem]
        rw [fin hz, hb]
        rfl

theorem Dsk.Ok.done {D : Dsk} (h : D.Ok) : D.done.Ok := ⟨h.srt, h.room, h.used, h.many, h.lasts, fun n hn => by
  unfold Dsk.done at hn
  cases hd : D.left with
  | none => simp [hd] at hn
  | some m =>
    have := h.left m hd
    simp [hd] at hn
    omega, h.names⟩
theorem Blk.set0 {w : World} {g : Nat} {t : TypeId} {cs : Array Value} (h : Blk w g t cs) (i : Nat) (u : Value) {cs' : Array Value} (e : cs.setIfInBounds i u = cs') : Blk (w.setCell ⟨g, i, none⟩ u) g t cs' := by
  rw [← e]; exact h.set i u
theorem done_spec (g : Nat) (D : Dsk) (F : Nat → Prop) (w : World) (h : Dk w g D F) (hl : D.left ≠ some 0) :
    Cal Tryz.prog 13 #[.pointer (some ⟨g, 0, none⟩)] w fun v w' => v = i64 0 ∧ Dk w' g D.done F ∧ Kp (At g) w w' := by
  obtain ⟨ok, r, z, ptr, Fs, h⟩ := h
  have h2 := h.blk.cell 2
  have h3 := h.blk.cell 3
  have hf := h.blk.frozen 3
  refine enter Tryz.mixed Tryz.func13 rfl (by kernel_rfl) ?_
  cases hd : D.left with
  | none =>
    rw [hd] at h2
    simp -dsimp [go_sem, h2, h3]
    refine ⟨⟨ok.done, r, z, ptr, Fs, ?_⟩, Kp.refl _ _⟩
    have e : D.done = D := by
      unfold Dsk.done
      rw [hd]
      show _ = D
      cases D
      simp at hd
      simp [hd]
    rw [e]; exact h
  | some n =>
    have hzn := h.left n hd
    have hn0 : n ≠ 0 := fun e => hl (by rw [hd, e])
    have hnl := ok.left n hd
    rw [hd] at h2
    have hw : IntKind.i64.wrap (z - 1) = ((n - 1 : Nat) : Int) := by rw [w64 (by omega) (by omega)]; omega
    obtain ⟨m, hm⟩ : ∃ m, m = n - 1 := ⟨_, rfl⟩
    rw [← hm] at hw
    simp -dsimp [go_sem, h2, h3, hf, hw]
    have hk : Kp (At g) w (w.setCell ⟨g, 3, none⟩ (i64 m)) := (Kp.refl _ _).setCell_at _ _
    have hdl : D.done.left = some m := by
      unfold Dsk.done
      rw [hd, hm]
      rfl
    have hng : ∀ s i, Fs s i → ¬ At g i := fun s i hi (e : i = g) => (h.inn s i hi).2.1 e
    exact ⟨⟨ok.done, r, m, ptr, Fs, ⟨Blk.set0 h.blk _ _ (by rw [hdl]; simp [hd, Dsk.done]), fun k hk => by rw [hdl] at hk; cases hk; rfl, h.mp.kp hk (fun e => h.ne e.symm), fun s f hf => (h.files s f hf).kp hk (hng s),
      h.apart, h.inn, h.ne, h.fg, h.fr, fun i hi => Nat.lt_of_lt_of_le (h.lt i hi) hk.size⟩⟩, hk⟩

theorem keyL {P : Program} {kt : TypeId} (h : P.underlying kt = some .string) : KeyS P kt (fun s : Nm => str s) := by
  have K := keyStr h
  have e : ∀ a b : Nm, (⟨a.toArray⟩ : ByteArray) = ⟨b.toArray⟩ ↔ a = b := fun a b => ⟨fun h => by injection h with h; exact List.toArray_inj h, fun h => by rw [h]⟩
  obtain ⟨d, hd, hs⟩ := K.desc
  exact ⟨⟨d, hd, fun a b => by rw [hs]; congr 1; simp [e]⟩, fun b a w => K.check b _ w, fun a => K.bits _, fun a b h => (e a b).1 (K.inj _ _ h)⟩
theorem used_spec (g : Nat) (D : Dsk) (F : Nat → Prop) (w : World) (h : Dk w g D F) :
    Cal Tryz.prog 12 #[.pointer (some ⟨g, 0, none⟩)] w fun v w' => v = i64 D.used ∧ Nw w w' := by
  obtain ⟨ok, r, z, ptr, Fs, h⟩ := h
  have h1 := h.blk.cell 1
  have K : KeyS Tryz.prog 9 (fun s : Nm => str s) := keyL (by kernel_rfl)
  have hmt : Tryz.prog.underlying 38 = some (.map 9 47) := by kernel_rfl
  obtain ⟨w1, hrun, hR, hk1⟩ := range_mp hmt h.mp
  refine enter Tryz.mixed Tryz.func12 rfl (by kernel_rfl) ?_
  simp -dsimp [go_sem, h1, hrun]
  have hu : D.used ≤ 1073741824 := Nat.le_trans ok.used ok.room
  have hrl := h.lt r h.fr
  obtain ⟨it, hit⟩ : ∃ it, it = w.heap.size := ⟨_, rfl⟩
  rw [← hit] at hR ⊢
  refine loop [3, 5, 13, 14, 15, 16, 17, 18, 19, 20, 21, 22, 23] (by kernel_rfl)
    (fun f w' => Box1 (fun a w' => ∃ (n : Nat) (left : Nm → Bool), a = i64 n ∧ n + sumL (fun f => f.b.length) left D.fs = D.used ∧ Rg w' it r (fun s : Nm => str s) (Mf ptr D.fs) (fun s => left s = true) ∧ Nw w w') (f 3) w') (fun _ w' => rgN w' it r)
    ⟨0, fun _ => true, rfl, by rw [sumL_all, Nat.zero_add]; rfl, by simpa using hR, hk1⟩ ?_
  rintro f w' ⟨n, left, f3, hsum, hR, hK⟩
  rcases next_rg (P := Tryz.prog) K.inj hR 0 with ⟨hend, hnext⟩ | ⟨a, v, w2, ha, hla, hnext, hR2, hK2, hN2, hentry⟩
  · simp -dsimp [go_sem, hnext, f3]
    have h0 : sumL (fun f => f.b.length) left D.fs = 0 := sumL_none _ _ _ (fun s x hs => by
      have := hend s (.pointer (some ⟨ptr s, 0, none⟩)) (by simp [Mf, hs])
      simpa using this) ok.srt
    exact ⟨by omega, hK⟩
  · have hK2' : Nw w w2 := Nw.at_ hK hK2 (Nf.at_ (by omega))
    obtain ⟨x, hx⟩ : ∃ x, tLook D.fs a = some x := by
      cases hx : tLook D.fs a with
      | none => simp [Mf, hx] at ha
      | some x => exact ⟨x, rfl⟩
    have hv : v = .pointer (some ⟨ptr a, 0, none⟩) := by
      simp [Mf, hx] at ha
      exact ha.symm
    subst hv
    obtain ⟨u, G, hb, ⟨A, c, rfl, ho, _⟩, _⟩ := (h.files a x hx).kp hK2' fun _ _ h => h
    have hb0 := hb.cell 0
    have hst := sumL_step (fun f : Fil => f.b.length) left ok.srt hx hla
    have hn1 : IntKind.i64.wrap ((n : Int) + (x.b.length : Int)) = ((n + x.b.length : Nat) : Int) := w64 (by omega) (by omega)
    obtain ⟨n1, hn1'⟩ : ∃ n1, n1 = n + x.b.length := ⟨_, rfl⟩
    rw [← hn1'] at hn1
    simp -dsimp [go_sem, hnext, hentry, hb0, f3, hn1]
    exact ⟨⟨n1, fun t => left t && !decide (t = a), rfl, by omega, by simpa using hR2, hK2'⟩, hN2⟩
end Go.Proofs.YthonmjgagblogaaGreat
