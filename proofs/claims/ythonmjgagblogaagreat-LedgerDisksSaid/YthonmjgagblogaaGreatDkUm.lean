/-
  The reference's disk: Rename walked. By the session itself. The reference's disk: Crash walked. By the session itself. The reference's disk: Copy walked. By the session itself. disk.Copy walked. By the session itself. DiskPlays: the disk and that of the reference side by side. By the session itself.
-/
import Derived.Test.YthonmjgagblogaaGreatDkT
namespace Go.Proofs.YthonmjgagblogaaGreat
set_option linter.unusedSimpArgs false
set_option linter.unusedVariables false
set_option maxRecDepth 100000
set_option maxHeartbeats 1000000
open Go.Vc Go.RowKit

theorem lay_gone {β : Type} {l : List (Nm × β)} (hl : Srt l) (s : Nm) (f : β) : tLay (tGone l s) s f = tLay l s f :=
  tLook_ext ((hl.tGone s).tLay s f) (hl.tLay s f) fun t => by
    rw [tLook_lay, tLook_lay, tLook_gone hl]
    split <;> rfl
theorem lay_same {β : Type} {l : List (Nm × β)} (hl : Srt l) {s : Nm} {f : β} (h : tLook l s = some f) : tLay l s f = l :=
  tLook_ext (hl.tLay s f) hl fun t => by
    rw [tLook_lay]
    split
    · rename_i e; rw [e, h]
    · rfl
end Go.Proofs.YthonmjgagblogaaGreat

namespace Go.Proofs.YthonmjgagblogaaGreat
set_option linter.unusedSimpArgs false
set_option linter.unusedVariables false
set_option maxRecDepth 100000
set_option maxHeartbeats 1000000
open Go.Vc Go.RowKit

/-- The files of which the first i have been cut. -/
def cutI (k i : Nat) (fs : List (Nm × Fil)) : List (Nm × Fil) := mapv (cutF k) (fs.take i) ++ fs.drop i
theorem cutI_at (k i : Nat) (fs : List (Nm × Fil)) (h : i < fs.length) : (cutI k i fs)[i]? = some fs[i] := by
  unfold cutI mapv
  rw [List.getElem?_append_right (by simp [Nat.min_eq_left (Nat.le_of_lt h)])]
  simp [Nat.min_eq_left (Nat.le_of_lt h), h]
theorem cutI_set (k i : Nat) (fs : List (Nm × Fil)) (h : i < fs.length) : (cutI k i fs).set i (fs[i].1, cutF k fs[i].2) = cutI k (i + 1) fs := by
  unfold cutI mapv
  have hl : ((fs.take i).map fun x => (x.1, cutF k x.2)).length = i := by simp [Nat.min_eq_left (Nat.le_of_lt h)]
  rw [List.set_append_right _ _ (by rw [hl]; exact Nat.le_refl _), hl, Nat.sub_self, List.drop_eq_getElem_cons h, List.take_succ_eq_append_getElem h, List.set_cons_zero, List.map_append]
  simp only [List.map_cons, List.map_nil, List.append_assoc, List.cons_append, List.nil_append]
end Go.Proofs.YthonmjgagblogaaGreat

namespace Go.Proofs.YthonmjgagblogaaGreat
set_option linter.unusedSimpArgs false
set_option linter.unusedVariables false
set_option maxRecDepth 100000
set_option maxHeartbeats 1000000
open Go.Vc Go.RowKit

/-- A file more. -/
theorem refM_push {w w2 : World} {y room c c2 n2 B0 : Nat} {left : Option Nat} {L : RL} {A A2 : Option Addr} {Q F : Nat → Prop} {nm : Nm} {b : List UInt8} {l : Nat} {v : Value} (h : RefM w y room left L A c Q F) (hB : Bs w v b B0) (hF : ∀ k, F k → k < B0) (hBw : B0 ≤ w.heap.size)
    (ho : Ow w2 56 3 A2 n2 c2 (fc (L ++ [((nm, ((⟨b, l⟩ : Fil), v)) : Nm × Fil × Value)]))) (hn : n2 = (L ++ [((nm, ((⟨b, l⟩ : Fil), v)) : Nm × Fil × Value)]).length) (hK : Kp (blk A) w w2) (hAA : ∀ k, blk A2 k → blk A k ∨ w.heap.size ≤ k) :
    ∃ Q' F', RefM (w2.setCell ⟨y, 1, none⟩ (.slice A2 n2 c2)) y room left (L ++ [((nm, ((⟨b, l⟩ : Fil), v)) : Nm × Fil × Value)]) A2 c2 Q' F' ∧ (∀ k, F' k → F k ∨ B0 ≤ k) ∧ Kp F w (w2.setCell ⟨y, 1, none⟩ (.slice A2 n2 c2)) := by
  subst hn
  have hFy : F y := h.inn y (.inl rfl)
  have hyB := hF y hFy
  have hs : Kp (At y) w2 (w2.setCell ⟨y, 1, none⟩ (.slice A2 (L ++ [((nm, ((⟨b, l⟩ : Fil), v)) : Nm × Fil × Value)]).length c2)) := (Kp.refl _ _).setCell_at _ _
  obtain ⟨B, d, hv, hoB, hB0⟩ := hB
  have hBk : ∀ k, blk B k → B0 ≤ k ∧ k < w.heap.size := fun k hk => by
    obtain ⟨a, ha, rfl⟩ := blk_of hk
    exact ⟨hB0 a ha, hoB.lt a ha⟩
  have hAF : ∀ k, blk A k → F k := fun k hk => h.inn k (.inr (.inl hk))
  have hA2y : Off A2 (At y) := Off.of_blk fun k hk (e : k = y) => by
    rcases hAA k hk with h1 | h1
    · obtain ⟨a, ha, e2⟩ := blk_of h1
      exact h.offx a ha (by show a.block = y; omega)
    · have := h.lt y hFy; omega
  refine ⟨fun k => Q k ∨ blk B k, fun k => F k ∨ blk B k ∨ blk A2 k, ⟨?_, ho.kp hs hA2y, fun q hq => ?_, fun k hk => ?_, hA2y, fun k hk => ?_, fun k hk => ?_⟩, fun k hk => ?_, (hK.mono fun k _ hk => hAF k hk).trans hs fun k _ (e : k = y) => e ▸ hFy⟩
  · have h1 := (h.blk.kp hK fun e => by obtain ⟨a, ha, e2⟩ := blk_of e; exact h.offx a ha e2).set 1 (.slice A2 (L ++ [((nm, ((⟨b, l⟩ : Fil), v)) : Nm × Fil × Value)]).length c2)
    simpa using h1
  · rcases List.mem_append.1 hq with hq | hq
    · exact ((((h.bytes q hq).kp hK fun i hi e => (h.offq i hi).2 e)).kp hs fun i hi (e : i = y) => (h.offq i hi).1 e).mono fun k hk => .inl hk
    · obtain rfl := List.mem_singleton.1 hq
      refine ⟨B, d, hv, ((hoB.kp hK (Off.of_blk fun k hk e => ?_)).kp hs (Off.of_blk fun k hk (e : k = y) => ?_)).rd, hoB.2.1, fun k hk => .inr hk⟩
      · have h1 := hF k (hAF k e); have h2 := (hBk k hk).1; omega
      · have h2 := (hBk k hk).1; omega
  · rcases hk with rfl | hk | hk | hk
    · exact .inl hFy
    · exact .inr (.inr hk)
    · exact .inl (h.inn k (.inr (.inr hk)))
    · exact .inr (.inl hk)
  · rcases hk with hk | hk
    · refine ⟨(h.offq k hk).1, fun e => ?_⟩
      rcases hAA k e with h1 | h1
      · exact (h.offq k hk).2 h1
      · have := h.lt k (h.inn k (.inr (.inr hk))); omega
    · have h2 := hBk k hk
      refine ⟨by omega, fun e => ?_⟩
      rcases hAA k e with h1 | h1
      · have := hF k (hAF k h1); omega
      · omega
  · have hs2 : w2.heap.size ≤ (w2.setCell ⟨y, 1, none⟩ (.slice A2 (L ++ [((nm, ((⟨b, l⟩ : Fil), v)) : Nm × Fil × Value)]).length c2)).heap.size := hs.size
    rcases hk with hk | hk | hk
    · have := h.lt k hk; have := hK.size; omega
    · have := hBk k hk; have := hK.size; omega
    · obtain ⟨a, ha, rfl⟩ := blk_of hk
      have := ho.lt a ha; omega
  · rcases hk with hk | hk | hk
    · exact .inl hk
    · exact .inr (hBk k hk).1
    · rcases hAA k hk with h1 | h1
      · exact .inl (hAF k h1)
      · exact .inr (Nat.le_trans hBw h1)
end Go.Proofs.YthonmjgagblogaaGreat

namespace Go.Proofs.YthonmjgagblogaaGreat
set_option linter.unusedSimpArgs false
set_option linter.unusedVariables false
set_option maxRecDepth 100000
set_option maxHeartbeats 1000000
open Go.Vc Go.RowKit

/-- Files that are not left any more. -/
def flt (left : Nm → Bool) (fs : List (Nm × Fil)) : List (Nm × Fil) := fs.filter fun x => !left x.1
theorem flt_look (left : Nm → Bool) : ∀ (fs : List (Nm × Fil)) (s : Nm), tLook (flt left fs) s = if left s then none else tLook fs s
  | [], s => by simp [flt, tLook]
  | p :: r, s => by
    have ih := flt_look left r s
    unfold flt at ih ⊢
    rw [List.filter_cons]
    by_cases hp : left p.1 = true
    · simp only [hp, Bool.not_true, Bool.false_eq_true, if_false, tLook]
      rw [ih]
      by_cases e : p.1 = s
      · rw [if_pos (by rw [← e]; exact hp), if_pos (by rw [← e]; exact hp)]
      · rw [if_neg e]
    · simp only [hp, Bool.not_false, if_true, tLook]
      by_cases e : p.1 = s
      · rw [if_pos e, if_pos e, if_neg (by rw [← e]; exact hp)]
      · rw [if_neg e, if_neg e, ih]
theorem flt_srt {left : Nm → Bool} {fs : List (Nm × Fil)} (h : Srt fs) : Srt (flt left fs) := List.Pairwise.filter _ h
theorem flt_sum (left : Nm → Bool) (n : Fil → Nat) (fs : List (Nm × Fil)) : sumv n (flt left fs) ≤ sumv n fs := by
  induction fs with
  | nil => exact Nat.le_refl _
  | cons p r ih =>
    unfold flt sumv at ih ⊢
    rw [List.filter_cons]
    split
    · simp only [List.map_cons, List.sum_cons]; omega
    · simp only [List.map_cons, List.sum_cons]; omega
theorem flt_len (left : Nm → Bool) (fs : List (Nm × Fil)) : (flt left fs).length ≤ fs.length := List.length_filter_le _ _
theorem flt_step {left : Nm → Bool} {fs : List (Nm × Fil)} (h : Srt fs) {a : Nm} {x : Fil} (hx : tLook fs a = some x) : tLay (flt left fs) a x = flt (fun s => left s && !decide (s = a)) fs :=
  tLook_ext ((flt_srt h).tLay a x) (flt_srt h) fun t => by
    rw [tLook_lay, flt_look, flt_look]
    by_cases e : t = a
    · subst e; simp [hx]
    · simp [e]
theorem flt_ok {D : Dsk} (ok : D.Ok) (left : Nm → Bool) : Dsk.Ok ⟨D.room, flt left D.fs, none⟩ :=
  ⟨flt_srt ok.srt, ok.room, Nat.le_trans (flt_sum left _ _) ok.used, Nat.le_trans (flt_len left _) ok.many, fun s f hf => by
    simp only [flt_look] at hf
    split at hf
    · cases hf
    · exact ok.lasts s f hf, by simp, fun s f hf => by
    simp only [flt_look] at hf
    split at hf
    · cases hf
    · exact ok.names s f hf⟩
theorem flt_none (fs : List (Nm × Fil)) : flt (fun _ => true) fs = [] := by simp [flt]
theorem flt_all {left : Nm → Bool} {fs : List (Nm × Fil)} (h : Srt fs) (hl : ∀ s, left s = true → tLook fs s = none) : flt left fs = fs :=
  tLook_ext (flt_srt h) h fun t => by
    rw [flt_look]
    split
    · rename_i e; rw [hl t e]
    · rfl
end Go.Proofs.YthonmjgagblogaaGreat

namespace Go.Proofs.YthonmjgagblogaaGreat
set_option linter.unusedSimpArgs false
set_option linter.unusedVariables false
set_option maxRecDepth 100000
set_option maxHeartbeats 1000000
open Go.Vc Go.RowKit

/-- New since w0, and not in N. -/
abbrev Ns (w0 : World) (N : Nat → Prop) : Nat → Prop := fun k => w0.heap.size ≤ k ∧ ¬ N k
/-- A disk and one of the reference, each of its own new blocks, none of which lies in N. -/
def Pr (w0 w : World) (N : Nat → Prop) (d : Nat) (D : Dsk) (x : Nat) (E : Dsk) : Prop := ∃ F G, Dk w d D F ∧ RefD w x E G ∧ (∀ i, F i → ¬ G i) ∧ (∀ i, F i → Ns w0 N i) ∧ (∀ i, G i → Ns w0 N i) ∧ Nw w0 w
section
variable {w0 w w1 : World} {N : Nat → Prop} {d x : Nat} {D E D' : Dsk}
theorem Pr.nw (T : Pr w0 w N d D x E) (k : Nw w w1) : Pr w0 w1 N d D x E := by
  obtain ⟨F, G, h1, h2, h3, h4, h5, h6⟩ := T
  exact ⟨F, G, h1.nw k, h2.nw k, h3, h4, h5, h6.nw k⟩
theorem Pr.on (T : Pr w0 w N d D x E) : Nw w0 w := by
  obtain ⟨F, G, h1, h2, h3, h4, h5, h6⟩ := T
  exact h6
theorem Pr.ok (T : Pr w0 w N d D x E) : D.Ok := by
  obtain ⟨F, G, h1, h2, h3, h4, h5, h6⟩ := T
  exact h1.ok
theorem Pr.new (T : Pr w0 w N d D x E) {N' : Nat → Prop} (hN : ∀ i, N' i → N i ∨ w.heap.size ≤ i) : Pr w0 w N' d D x E := by
  obtain ⟨F, G, h1, h2, h3, h4, h5, h6⟩ := T
  exact ⟨F, G, h1, h2, h3, fun i hi => ⟨(h4 i hi).1, fun e => (hN i e).elim (h4 i hi).2 fun h => by have := h1.lt i hi; omega⟩, fun i hi => ⟨(h5 i hi).1, fun e => (hN i e).elim (h5 i hi).2 fun h => by have := h2.lt i hi; omega⟩, h6⟩
theorem Pr.kp {S : Nat → Prop} (T : Pr w0 w N d D x E) (k : Kp S w w1) (hS : ∀ i, S i → w0.heap.size ≤ i ∧ N i) : Pr w0 w1 N d D x E := by
  obtain ⟨F, G, h1, h2, h3, h4, h5, h6⟩ := T
  exact ⟨F, G, h1.kp k fun i hi e => (h4 i hi).2 (hS i e).2, h2.kp k fun i hi e => (h5 i hi).2 (hS i e).2, h3, h4, h5, h6.at_ k fun i hi => (hS i hi).1⟩
theorem Pr.pc {k : FuncId} {args : Array Value} {Q : Value → World → Prop} (T : Pr w0 w N d D x E) (k1 : Nw w w1) (hN : ∀ i, N i → i < w1.heap.size)
    (h : ∀ F, Dk w1 d D F → (∀ i, F i → Ns w0 N i) → (∀ i, F i → i < w.heap.size) → Cal Tryz.prog k args w1 fun v w' => Q v w' ∧ ∃ F', Dk w' d D' F' ∧ Gr F F' w1 w' ∧ Kp F w1 w') :
    Cal Tryz.prog k args w1 fun v w' => Q v w' ∧ Pr w0 w' N d D' x E ∧ Kp (Ns w0 N) w1 w' := by
  obtain ⟨F, G, h1, h2, h3, h4, h5, h6⟩ := T
  refine (h F (h1.nw k1) h4 h1.lt).mono ?_
  rintro v w' ⟨hv, F', hD, hG, hK⟩
  have h2' := h2.nw k1
  refine ⟨hv, ⟨F', G, hD, h2'.kp hK (fun i hg hf => h3 i hf hg), Gr.dj hG h3 h2'.lt, fun i hi => ?_, h5, Nw.at_ (h6.nw k1) hK fun i hi => (h4 i hi).1⟩, hK.mono fun i _ hi => h4 i hi⟩
  rcases hG i hi with e | e
  · exact h4 i e
  · exact ⟨by have := (h6.nw k1).size; omega, fun hn => by have := hN i hn; omega⟩
theorem Pr.rc {k : FuncId} {args : Array Value} {Q : Value → World → Prop} (T : Pr w0 w N d E x D) (k1 : Nw w w1) (hN : ∀ i, N i → i < w1.heap.size)
    (h : ∀ F, RefD w1 x D F → (∀ i, F i → Ns w0 N i) → (∀ i, F i → i < w.heap.size) → Cal Tryz.prog k args w1 fun v w' => Q v w' ∧ ∃ F', RefD w' x D' F' ∧ Gr F F' w1 w' ∧ Kp F w1 w') :
    Cal Tryz.prog k args w1 fun v w' => Q v w' ∧ Pr w0 w' N d E x D' ∧ Kp (Ns w0 N) w1 w' := by
  obtain ⟨F, G, h1, h2, h3, h4, h5, h6⟩ := T
  refine (h G (h2.nw k1) h5 h2.lt).mono ?_
  rintro v w' ⟨hv, G', hD, hG, hK⟩
  have h1' := h1.nw k1
  refine ⟨hv, ⟨F, G', h1'.kp hK (fun i hf hg => h3 i hf hg), hD, fun i hf hg => Gr.dj hG (fun i hg hf => h3 i hf hg) h1'.lt i hg hf, h4, fun i hi => ?_, Nw.at_ (h6.nw k1) hK fun i hi => (h5 i hi).1⟩, hK.mono fun i _ hi => h5 i hi⟩
  rcases hG i hi with e | e
  · exact h5 i e
  · exact ⟨by have := (h6.nw k1).size; omega, fun hn => by have := hN i hn; omega⟩
/-- What lay there before w0 reads as it did, and is none of the disks'. -/
theorem Pr.off {A : Option Addr} {xs : List Value} {F : Nat → Prop} (hr : Rd w0 A xs) (h : ∀ i, F i → Ns w0 N i) : Ofl A xs F := hr.ofl fun i hi => (h i hi).1
theorem dEach_one (f : Dsk → Nm → Fil → Dsk) (D : Dsk) (s : Nm) : dEach f D [s] = dStep f D s := by
  simp only [dEach]
  split
  · rfl
  · rename_i h
    have h : (dStep f D s).2 = 0 := by simpa using h
    rw [← h]
end
section
variable {w0 w w1 : World} {N : Nat → Prop} {d x : Nat} {D E : Dsk}
theorem Pr.psync (T : Pr w0 w N d D x E) (k1 : Nw w w1) (hN : ∀ i, N i → i < w1.heap.size) (s : Nm) (b : Nat) (hb : w.heap.size ≤ b) (hr : Rd w1 (some ⟨b, 0, none⟩) ([s].map fun s => str s)) (hs : s.length ≤ 9223372036854775807) :
    Cal Tryz.prog 48 #[.pointer (some ⟨d, 0, none⟩), .slice (some ⟨b, 0, none⟩) 1 1] w1 fun v w' => v = i64 (dStep fSync D s).2 ∧ Pr w0 w' N d (dStep fSync D s).1 x E ∧ Kp (Ns w0 N) w1 w' := by
  refine T.pc k1 hN fun F h hF hlt => ?_
  have := dsync_spec [s] (some ⟨b, 0, none⟩) 1 d D F w1 h hr (fun a ha _ hf => by cases ha; have := hlt _ hf; simp at this; omega) (by simp) (by simpa using hs)
  rwa [dEach_one] at this
theorem Pr.premove (T : Pr w0 w N d D x E) (k1 : Nw w w1) (hN : ∀ i, N i → i < w1.heap.size) (s : Nm) (b : Nat) (hb : w.heap.size ≤ b) (hr : Rd w1 (some ⟨b, 0, none⟩) ([s].map fun s => str s)) (hs : s.length ≤ 9223372036854775807) :
    Cal Tryz.prog 64 #[.pointer (some ⟨d, 0, none⟩), .slice (some ⟨b, 0, none⟩) 1 1] w1 fun v w' => v = i64 (dStep fRemove D s).2 ∧ Pr w0 w' N d (dStep fRemove D s).1 x E ∧ Kp (Ns w0 N) w1 w' := by
  refine T.pc k1 hN fun F h hF hlt => ?_
  have := dremove_spec [s] (some ⟨b, 0, none⟩) 1 d D F w1 h hr (fun a ha _ hf => by cases ha; have := hlt _ hf; simp at this; omega) (by simp) (by simpa using hs)
  rwa [dEach_one] at this
theorem Pr.pappend (T : Pr w0 w N d D x E) (k1 : Nw w w1) (hN : ∀ i, N i → i < w1.heap.size) (s : Nm) (p : List UInt8) (A : Option Addr) (c : Nat) (hr : Brs w1 A [p] fun _ => False) (hc : 1 ≤ c) (hp : p.length ≤ 140737488355328) (hs : s.length ≤ 9223372036854775807) :
    Cal Tryz.prog 6 #[.pointer (some ⟨d, 0, none⟩), str s, .slice A 1 c] w1 fun v w' => v = i64 (dAppend D s p).2 ∧ Pr w0 w' N d (dAppend D s p).1 x E ∧ Kp (Ns w0 N) w1 w' := by
  refine T.pc k1 hN fun F h hF hlt => ?_
  have := dappend_spec s [p] A c d D F _ w1 h hr (by simpa using hc) (by simp) (by simpa using hp) hs
  rwa [show ([p] : List (List UInt8)).flatten = p by simp] at this
theorem Pr.ptrunc (T : Pr w0 w N d D x E) (k1 : Nw w w1) (hN : ∀ i, N i → i < w1.heap.size) (s : Nm) (n : Int) (hs : s.length ≤ 9223372036854775807) :
    Cal Tryz.prog 63 #[.pointer (some ⟨d, 0, none⟩), str s, i64 n] w1 fun v w' => v = i64 (dTrunc D s n).2 ∧ Pr w0 w' N d (dTrunc D s n).1 x E ∧ Kp (Ns w0 N) w1 w' :=
  T.pc k1 hN fun F h hF hlt => dtrunc_spec s n d D F w1 h hs
theorem Pr.prename (T : Pr w0 w N d D x E) (k1 : Nw w w1) (hN : ∀ i, N i → i < w1.heap.size) (a b : Nm) (ha : a.length ≤ 9223372036854775807) (hb : b.length ≤ 9223372036854775807) :
    Cal Tryz.prog 80 #[.pointer (some ⟨d, 0, none⟩), str a, str b] w1 fun v w' => v = i64 (dRename D a b).2 ∧ Pr w0 w' N d (dRename D a b).1 x E ∧ Kp (Ns w0 N) w1 w' :=
  T.pc k1 hN fun F h hF hlt => (drename_spec a b d D F w1 h ha hb).mono fun v w' ⟨e, h, k⟩ => ⟨e, F, h, fun i hi => .inl hi, k⟩
theorem Pr.pread (T : Pr w0 w N d D x E) (k1 : Nw w w1) (s : Nm) :
    Cal Tryz.prog 39 #[.pointer (some ⟨d, 0, none⟩), str s] w1 fun v w' => Nw w1 w' ∧ ∃ u, v = .tuple #[u, i64 (dRead D s).2] ∧ Bs w' u (dRead D s).1 w1.heap.size := by
  obtain ⟨F, G, h1, h2, h3, h4, h5, h6⟩ := T
  exact dread_spec s d D F w1 (h1.nw k1)
theorem Pr.rread (T : Pr w0 w N d E x D) (ok : D.Ok) (k1 : Nw w w1) (s : Nm) :
    Cal Tryz.prog 33 #[.pointer (some ⟨x, 0, none⟩), str s] w1 fun v w' => Nw w1 w' ∧ ∃ u, v = .tuple #[u, i64 (dRead D s).2] ∧ Bs w' u (dRead D s).1 w1.heap.size := by
  obtain ⟨F, G, h1, h2, h3, h4, h5, h6⟩ := T
  exact rread_spec s x D G w1 (h2.nw k1) ok
theorem Pr.rsync (T : Pr w0 w N d E x D) (ok : D.Ok) (k1 : Nw w w1) (hN : ∀ i, N i → i < w1.heap.size) (s : Nm) (hs : s.length ≤ 9223372036854775807) :
    Cal Tryz.prog 36 #[.pointer (some ⟨x, 0, none⟩), str s] w1 fun v w' => v = i64 (dStep fSync D s).2 ∧ Pr w0 w' N d E x (dStep fSync D s).1 ∧ Kp (Ns w0 N) w1 w' :=
  T.rc k1 hN fun F h hF hlt => rsync_spec s x D F w1 h ok hs
theorem Pr.rremove (T : Pr w0 w N d E x D) (ok : D.Ok) (k1 : Nw w w1) (hN : ∀ i, N i → i < w1.heap.size) (s : Nm) (hs : s.length ≤ 9223372036854775807) :
    Cal Tryz.prog 31 #[.pointer (some ⟨x, 0, none⟩), str s] w1 fun v w' => v = i64 (dStep fRemove D s).2 ∧ Pr w0 w' N d E x (dStep fRemove D s).1 ∧ Kp (Ns w0 N) w1 w' :=
  T.rc k1 hN fun F h hF hlt => rremove_spec s x D F w1 h ok hs
theorem Pr.rappend (T : Pr w0 w N d E x D) (ok : D.Ok) (k1 : Nw w w1) (hN : ∀ i, N i → i < w1.heap.size) (s : Nm) (p : List UInt8) (A : Option Addr) (c : Nat) (hr : Rd w1 A (p.map u8)) (hA : ∀ F : Nat → Prop, (∀ i, F i → Ns w0 N i) → (∀ i, F i → i < w.heap.size) → Ofl A (p.map u8) F) (hp : p.length ≤ 1073741824) (hs : s.length ≤ 9223372036854775807) :
    Cal Tryz.prog 7 #[.pointer (some ⟨x, 0, none⟩), str s, .slice A p.length c] w1 fun v w' => v = i64 (dAppend D s p).2 ∧ Pr w0 w' N d E x (dAppend D s p).1 ∧ Kp (Ns w0 N) w1 w' :=
  T.rc k1 hN fun F h hF hlt => rappend_spec s p A c x D F w1 h ok hs hr (hA F hF hlt) hp
theorem Pr.rtrunc (T : Pr w0 w N d E x D) (ok : D.Ok) (k1 : Nw w w1) (hN : ∀ i, N i → i < w1.heap.size) (s : Nm) (n : Int) (hs : s.length ≤ 9223372036854775807) :
    Cal Tryz.prog 35 #[.pointer (some ⟨x, 0, none⟩), str s, i64 n] w1 fun v w' => v = i64 (dTrunc D s n).2 ∧ Pr w0 w' N d E x (dTrunc D s n).1 ∧ Kp (Ns w0 N) w1 w' :=
  T.rc k1 hN fun F h hF hlt => rtrunc_spec s n x D F w1 h ok hs
end

end Go.Proofs.YthonmjgagblogaaGreat

