/-
  The reference's disk: a row of files by rising names; where a name stands; what is read only, walked. By the session itself. The reference's disk: Read, List, Sync, remove walked. By the session itself. The reference's disk: remove, Remove walked. By the session itself.
-/
import Derived.Test.YtipdndmfngpbfaaGreatDoorQ28
import Derived.Test.YtipdndmfngpbfaaGreatDoorQ05
namespace Go.Proofs.YtipdndmfngpbfaaGreatDoor
set_option linter.unusedSimpArgs false
set_option linter.unusedVariables false
set_option maxRecDepth 100000
set_option maxHeartbeats 1000000
open Go.Vc Go.RowKit

/-! ### Where a name stands -/
section
variable {β : Type}
def spN : List (Nm × β) → Nm → Nat
  | [], _ => 0
  | p :: r, s => if p.1 < s then spN r s + 1 else 0
theorem sp_at {l : List (Nm × β)} (hl : Srt l) {s : Nm} {f : β} (h : tLook l s = some f) : l[spN l s]? = some (s, f) := by
  induction l with
  | nil => cases h
  | cons p r ih =>
    obtain ⟨k, g⟩ := p
    simp only [tLook] at h
    by_cases hk : k = s
    · subst hk
      rw [if_pos rfl] at h
      injection h with h
      simp [spN, nm_lt_irrefl, h]
    · rw [if_neg hk] at h
      have hlt : k < s := hl.head _ (tLook_some h)
      simp [spN, hlt, ih hl.tail h]
theorem sp_not {l : List (Nm × β)} (hl : Srt l) {s : Nm} (h : tLook l s = none) : ∀ q, l[spN l s]? = some q → q.1 ≠ s := by
  intro q hq e
  have hm : (s, q.2) ∈ l := by rw [← e]; exact List.mem_of_getElem? hq
  rw [(tLook_mem hl).2 hm] at h
  cases h
theorem sp_old {l : List (Nm × β)} (hl : Srt l) {s : Nm} {g : β} (h : tLook l s = some g) (f : β) : tLay l s f = l.set (spN l s) (s, f) := by
  induction l with
  | nil => cases h
  | cons p r ih =>
    obtain ⟨k, g'⟩ := p
    simp only [tLook] at h
    by_cases hk : k = s
    · subst hk
      simp [tLay, spN, nm_lt_irrefl]
    · rw [if_neg hk] at h
      have hlt : k < s := hl.head _ (tLook_some h)
      simp [tLay, spN, hlt, ih hl.tail h]
theorem sp_gone {l : List (Nm × β)} (hl : Srt l) {s : Nm} {g : β} (h : tLook l s = some g) : tGone l s = l.take (spN l s) ++ l.drop (spN l s + 1) := by
  induction l with
  | nil => cases h
  | cons p r ih =>
    obtain ⟨k, g'⟩ := p
    simp only [tLook] at h
    by_cases hk : k = s
    · subst hk
      simp [tGone, spN, nm_lt_irrefl]
    · rw [if_neg hk] at h
      have hlt : k < s := hl.head _ (tLook_some h)
      simp [tGone, spN, hlt, hk, ih hl.tail h]
theorem mapv_lay {γ : Type} (c : β → γ) (l : List (Nm × β)) (s : Nm) (f : β) : mapv c (tLay l s f) = tLay (mapv c l) s (c f) := by
  induction l with
  | nil => rfl
  | cons p r ih =>
    obtain ⟨k, g⟩ := p
    simp only [mapv, List.map_cons, tLay] at ih ⊢
    split
    · simp [ih]
    · split <;> simp
theorem mapv_gone {γ : Type} (c : β → γ) (l : List (Nm × β)) (s : Nm) : mapv c (tGone l s) = tGone (mapv c l) s := by
  induction l with
  | nil => rfl
  | cons p r ih =>
    obtain ⟨k, g⟩ := p
    simp only [mapv, List.map_cons, tGone] at ih ⊢
    split
    · rfl
    · simp [ih]
theorem srt_mapv {γ : Type} {c : β → γ} {l : List (Nm × β)} (h : Srt (mapv c l)) : Srt l := by
  unfold Srt mapv at h
  rw [List.pairwise_map] at h
  exact h
end

/-! ### Files as cells -/
abbrev RL := List (Nm × (Fil × Value))
def fc (L : RL) : List Value := L.flatMap fun q => [str q.1, q.2.2, i64 q.2.1.l]
theorem fc_len (L : RL) : (fc L).length = L.length * 3 := by
  induction L with
  | nil => rfl
  | cons p r ih => simp only [fc, List.flatMap_cons, List.length_append, List.length_cons, List.length_nil] at ih ⊢; omega
theorem fc_app (L M : RL) : fc (L ++ M) = fc L ++ fc M := by simp [fc]
theorem fc_at : ∀ (L : RL) (i : Nat) (h : i < L.length), (fc L)[i * 3]? = some (str L[i].1) ∧ (fc L)[i * 3 + 1]? = some L[i].2.2 ∧ (fc L)[i * 3 + 2]? = some (i64 L[i].2.1.l)
  | p :: r, 0, _ => ⟨rfl, rfl, rfl⟩
  | p :: r, i + 1, h => by
    have := fc_at r i (by simpa using h)
    rw [show (i + 1) * 3 = i * 3 + 1 + 1 + 1 by omega]
    exact this
theorem fc_take (L : RL) (i : Nat) (h : i ≤ L.length) : (fc L).take (i * 3) = fc (L.take i) := by
  have e : fc L = fc (L.take i) ++ fc (L.drop i) := by rw [← fc_app, List.take_append_drop]
  rw [e, List.take_left' (by rw [fc_len, List.length_take, Nat.min_eq_left h])]
theorem fc_drop (L : RL) (i : Nat) (h : i ≤ L.length) : (fc L).drop (i * 3) = fc (L.drop i) := by
  have e : fc L = fc (L.take i) ++ fc (L.drop i) := by rw [← fc_app, List.take_append_drop]
  rw [e, List.drop_left' (by rw [fc_len, List.length_take, Nat.min_eq_left h])]
theorem fc_set1 : ∀ (L : RL) (i : Nat) (h : i < L.length) (u : Value), (fc L).set (i * 3 + 1) u = fc (L.set i (L[i].1, (L[i].2.1, u)))
  | p :: r, 0, _, u => rfl
  | p :: r, i + 1, h, u => by
    have := fc_set1 r i (by simpa using h) u
    rw [show (i + 1) * 3 + 1 = i * 3 + 1 + 1 + 1 + 1 by omega]
    exact congrArg (fun t => str p.1 :: p.2.2 :: i64 p.2.1.l :: t) this
theorem fc_set2 : ∀ (L : RL) (i : Nat) (h : i < L.length) (n : Nat), (fc L).set (i * 3 + 2) (i64 n) = fc (L.set i (L[i].1, (⟨L[i].2.1.b, n⟩, L[i].2.2)))
  | p :: r, 0, _, u => rfl
  | p :: r, i + 1, h, u => by
    have := fc_set2 r i (by simpa using h) u
    rw [show (i + 1) * 3 + 2 = i * 3 + 2 + 1 + 1 + 1 by omega]
    exact congrArg (fun t => str p.1 :: p.2.2 :: i64 p.2.1.l :: t) this
theorem ow_setN {w : World} {e : TypeId} {g n c sz : Nat} {xs : List Value} (h : Ow w e sz (some ⟨g, 0, none⟩) n c xs) (i : Nat) (u : Value) : Ow (w.setCell ⟨g, i, none⟩ u) e sz (some ⟨g, 0, none⟩) n c (xs.set i u) := by
  obtain ⟨h1, h2, h3, h4⟩ := h
  refine ⟨by simpa using h1, h2, h3, ?_⟩
  rcases h4 with ⟨h4, _⟩ | ⟨g', cur, e, hg, h5, h6⟩
  · cases h4
  · cases e
    refine .inr ⟨_, _, rfl, hg.set i u, by simpa using h5, ?_⟩
    rw [← h6]
    simp [List.take_set]

theorem SFile : SlT Tryz.prog 144 152 3 48 (.agg #[.string ⟨#[]⟩, .slice none 0 0, .int .i64 0]) := ⟨by kernel_rfl, by kernel_rfl, by rfl, by decide⟩
theorem run_bsA3 {P : Program} {w : World} (t : TypeId) (a b c : Value) (h : P.underlying t = some (.slice (P.elem t))) (hs : (sizeOf (P.elem t)).run P w = .ok 3 w) (hz : ∃ x y z, (zeroValue (P.elem t)).run P w = .ok (.agg #[x, y, z]) w) :
    bsR P t 1 #[(0, .agg #[a, b, c])] w = .ok (.slice (some ⟨w.heap.size, 0, none⟩) 1 1) (w.alloc (.cells #[a, b, c] (P.elem t))) := by
  obtain ⟨x, y, z, hz⟩ := hz
  simp [bsR, Instr.buildSlice, run_underlying h, hs, hz, Instr.fill, Value.cells, newRow, show Array.range 1 = #[0] from rfl, show Array.range 3 = #[0, 1, 2] from rfl]
@[go_sem 20000] theorem bs_file (a b c : Value) (w : World) : bsR Tryz.prog 144 1 #[(0, .agg #[a, b, c])] w = .ok (.slice (some ⟨w.heap.size, 0, none⟩) 1 1) (w.alloc (.cells #[a, b, c] 152)) :=
  run_bsA3 _ a b c (by kernel_rfl) (by rfl) ⟨_, _, _, rfl⟩

/-- Bytes that are read only, within Q. -/
def Bv (w : World) (v : Value) (b : List UInt8) (Q : Nat → Prop) : Prop := ∃ B d, v = .slice B b.length d ∧ Rd w B (b.map u8) ∧ b.length ≤ d ∧ ∀ k, blk B k → Q k
theorem Bv.kp {S : Nat → Prop} {w w' : World} {v : Value} {b : List UInt8} {Q : Nat → Prop} (h : Bv w v b Q) (k : Kp S w w') (hd : ∀ i, Q i → ¬ S i) : Bv w' v b Q := by
  obtain ⟨B, d, h1, h2, h3, h4⟩ := h
  exact ⟨B, d, h1, h2.kp k ((Off.of_blk fun i hi => hd _ (h4 _ hi)).l _), h3, h4⟩
theorem Bv.mono {w : World} {v : Value} {b : List UInt8} {Q Q' : Nat → Prop} (h : Bv w v b Q) (hq : ∀ k, Q k → Q' k) : Bv w v b Q' := by
  obtain ⟨B, d, h1, h2, h3, h4⟩ := h
  exact ⟨B, d, h1, h2, h3, fun k hk => hq k (h4 k hk)⟩
def leftI : Option Nat → Int
  | none => -1
  | some n => n
/-- The reference's Disk at block x: the row L in A, its bytes in Q. -/
structure RefM (w : World) (x : Nat) (room : Nat) (left : Option Nat) (L : RL) (A : Option Addr) (c : Nat) (Q F : Nat → Prop) : Prop where
  blk : Blk w x 146 #[i64 room, .slice A L.length c, i64 (leftI left)]
  own : Ow w 152 3 A L.length c (fc L)
  bytes : ∀ q ∈ L, Bv w q.2.2 q.2.1.b Q
  inn : ∀ k, k = x ∨ Vc.blk A k ∨ Q k → F k
  offx : Off A (At x)
  offq : ∀ k, Q k → k ≠ x ∧ ¬ Vc.blk A k
  lt : ∀ k, F k → k < w.heap.size
def RefD (w : World) (x : Nat) (D : Dsk) (F : Nat → Prop) : Prop := ∃ L A c Q, mapv Prod.fst L = D.fs ∧ RefM w x D.room D.left L A c Q F
theorem RefM.kp {S : Nat → Prop} {w w' : World} {x room c : Nat} {left : Option Nat} {L : RL} {A : Option Addr} {Q F : Nat → Prop} (h : RefM w x room left L A c Q F) (k : Kp S w w') (hd : ∀ i, F i → ¬ S i) : RefM w' x room left L A c Q F :=
  ⟨h.blk.kp k (hd _ (h.inn _ (.inl rfl))), h.own.kp k (Off.of_blk fun i hi => hd _ (h.inn _ (.inr (.inl hi)))), fun q hq => (h.bytes q hq).kp k fun i hi => hd _ (h.inn _ (.inr (.inr hi))), h.inn, h.offx, h.offq, fun i hi => Nat.lt_of_lt_of_le (h.lt i hi) k.size⟩
theorem RefM.nw {w w' : World} {x room c : Nat} {left : Option Nat} {L : RL} {A : Option Addr} {Q F : Nat → Prop} (h : RefM w x room left L A c Q F) (k : Nw w w') : RefM w' x room left L A c Q F := h.kp k fun _ _ h => h
theorem RefD.kp {S : Nat → Prop} {w w' : World} {x : Nat} {D : Dsk} {F : Nat → Prop} (h : RefD w x D F) (k : Kp S w w') (hd : ∀ i, F i → ¬ S i) : RefD w' x D F := by
  obtain ⟨L, A, c, Q, h1, h2⟩ := h
  exact ⟨L, A, c, Q, h1, h2.kp k hd⟩
theorem RefD.nw {w w' : World} {x : Nat} {D : Dsk} {F : Nat → Prop} (h : RefD w x D F) (k : Nw w w') : RefD w' x D F := h.kp k fun _ _ h => h
theorem RefD.lt {w : World} {x : Nat} {D : Dsk} {F : Nat → Prop} (h : RefD w x D F) : ∀ k, F k → k < w.heap.size := by
  obtain ⟨L, A, c, Q, h1, h2⟩ := h
  exact h2.lt
theorem RefM.lenL {w : World} {x room c : Nat} {left : Option Nat} {L : RL} {A : Option Addr} {Q F : Nat → Prop} (h : RefM w x room left L A c Q F) {D : Dsk} (e : mapv Prod.fst L = D.fs) (ok : D.Ok) : L.length ≤ 4096 := by
  have := ok.many
  rw [← e] at this
  simpa [mapv] using this

theorem rnew_spec (n : Int) (w : World) : Cal Tryz.prog 61 #[i64 n] w fun v w' =>
    ((n < 0 ∨ 1073741824 < n) ∧ v = .tuple #[.pointer none, i64 1] ∧ w' = w) ∨ (0 ≤ n ∧ n ≤ 1073741824 ∧ ∃ x F, v = .tuple #[.pointer (some ⟨x, 0, none⟩), i64 0] ∧ RefD w' x ⟨n.toNat, [], none⟩ F ∧ Nf w F ∧ Nw w w') := by
  refine enter Tryz.mixed Tryz.func61 rfl (by kernel_rfl) ?_
  by_cases h0 : n < 0
  · simp -dsimp [go_sem, h0]
  · by_cases h1 : 1073741824 < n
    · simp -dsimp [go_sem, h0, h1]
    · obtain ⟨m, rfl⟩ : ∃ m : Nat, n = m := ⟨n.toNat, by omega⟩
      simp -dsimp [go_sem, h0, h1]
      simp [go_sem]
      refine ⟨by omega, At w.heap.size, ⟨[], none, 0, fun _ => False, rfl, Blk.new _ _ _, Ow.nil _ _ _, by simp, fun k hk => ?_, by simp [Off], fun k h => h.elim, fun k (e : k = _) => by simp [e]⟩, Nf.at_ (Nat.le_refl _), (Kp.refl _ _).alloc _⟩
      rcases hk with e | e | e
      · exact e
      · exact e.elim
      · exact e.elim
theorem rmay_spec (ns : List Nm) (A : Option Addr) (c x : Nat) (D : Dsk) (F : Nat → Prop) (w : World) (h : RefD w x D F) (hr : Rd w A (ns.map fun s => str s)) (hl : ns.length ≤ 140737488355328) (hs : ∀ s ∈ ns, s.length ≤ 9223372036854775807) :
    Cal Tryz.prog 187 #[.pointer (some ⟨x, 0, none⟩), .slice A ns.length c] w fun v w' => v = i64 (mayL D ns) ∧ w' = w := by
  obtain ⟨L, A0, c0, Q, he, h⟩ := h
  have b2 := h.blk.cell 2
  refine enter Tryz.mixed Tryz.func187 rfl (by kernel_rfl) ?_
  by_cases hz0 : D.left = some 0
  · rw [hz0] at b2
    have e : mayL D ns = 9 := by unfold mayL; rw [if_pos hz0]
    rw [e]
    have b2 : w.cell? ⟨x, 2, none⟩ = some (i64 0) := b2
    simp -dsimp [go_sem, b2]
  · have hne : (leftI D.left == 0) = false := by
      cases hd : D.left with
      | none => rfl
      | some n =>
        rw [hd] at hz0
        simp only [leftI, beq_eq_false_iff_ne]
        intro e
        exact hz0 (by congr 1; omega)
    have fin : mayL D ns = if ns.any badN then 1 else 0 := by unfold mayL; rw [if_neg hz0]
    simp -dsimp [go_sem, b2, hne]
    refine loop [4, 5, 11, 12, 13, 14, 15, 16, 17, 18, 19, 20, 21, 22, 23, 24, 25, 26, 27, 28, 29, 30] (by kernel_rfl) (fun f w' => Box1 (fun a w' => ∃ i : Nat, i ≤ ns.length ∧ a = i64 i ∧ (ns.take i).any badN = false ∧ w' = w) (f 5) w') (fun f _ => ns.length - (intOf (f 5)).toNat) ⟨0, Nat.zero_le _, rfl, rfl, rfl⟩ ?_
    rintro f w' ⟨i, hi, f5, hb, rfl⟩
    by_cases hlt : i < ns.length
    · obtain ⟨b, o, rfl, hc⟩ := hr i (str ns[i]) (by simp [hlt])
      have htk : (ns.take (i + 1)).any badN = badN ns[i] := by
        rw [List.take_succ_eq_append_getElem hlt, List.any_append, hb]
        simp
      have hmem := List.getElem_mem hlt
      have hsl := hs ns[i] hmem
      obtain ⟨s, hs'⟩ : ∃ s, s = ns[i] := ⟨_, rfl⟩
      rw [← hs'] at hc htk hmem hsl
      have bad : badN s = true → mayL D ns = 1 := fun hbs => by
        rw [fin, if_pos]
        exact List.any_eq_true.2 ⟨s, hmem, hbs⟩
      by_cases h1 : s.length < 1
      · have h1' : (s.length : Int) < 1 := by omega
        simp -dsimp [go_sem, f5, hlt, hc, h1, h1']
        rw [bad (by simp [badN, h1])]
        rfl
      · have h1' : ¬ (s.length : Int) < 1 := by omega
        by_cases h64 : 64 < s.length
        · have h64' : (64 : Int) < (s.length : Int) := by omega
          simp -dsimp [go_sem, f5, hlt, hc, h1, h1', h64, h64']
          rw [bad (by simp [badN, h64])]
          rfl
        · have h64' : ¬ (64 : Int) < (s.length : Int) := by omega
          have hk1 : IntKind.i64.wrap ((i : Int) + 1) = ((i + 1 : Nat) : Int) := w64 (by omega) (by omega)
          obtain ⟨k1, hk1'⟩ : ∃ k1, k1 = i + 1 := ⟨_, rfl⟩
          rw [← hk1'] at hk1 htk
          simp -dsimp [go_sem, f5, hlt, hc, h1, h1', h64, h64', hk1]
          refine ⟨⟨k1, by omega, rfl, ?_, rfl⟩, by simp [intOf]; omega⟩
          rw [htk]
          simp [badN, h1, h64]
    · obtain rfl : i = ns.length := by omega
      rw [List.take_length] at hb
      simp -dsimp [go_sem, f5]
      rw [fin, hb]
      rfl
theorem rdid_spec (x : Nat) (D : Dsk) (F : Nat → Prop) (w : World) (h : RefD w x D F) (hleft : ∀ n, D.left = some n → n ≤ 9223372036854775807) :
    Cal Tryz.prog 190 #[.pointer (some ⟨x, 0, none⟩)] w fun v w' => v = i64 0 ∧ RefD w' x D.done F ∧ Kp (At x) w w' := by
  obtain ⟨L, A, c, Q, he, h⟩ := h
  have b2 := h.blk.cell 2
  have b2f := h.blk.frozen 2
  refine enter Tryz.mixed Tryz.func190 rfl (by kernel_rfl) ?_
  cases hd : D.left with
  | none =>
    rw [hd] at b2
    have b2 : w.cell? ⟨x, 2, none⟩ = some (i64 (-1)) := b2
    have e : D.done = D := by simp [Dsk.done, hd]; cases D; simp_all
    rw [e]
    simp -dsimp [go_sem, b2]
    exact ⟨⟨L, A, c, Q, he, h⟩, Kp.refl _ _⟩
  | some n =>
    rw [hd] at b2
    have b2 : w.cell? ⟨x, 2, none⟩ = some (i64 n) := b2
    by_cases h0 : n = 0
    · subst h0
      have e : D.done = D := by simp [Dsk.done, hd]; cases D; simp_all
      rw [e]
      simp -dsimp [go_sem, b2]
      exact ⟨⟨L, A, c, Q, he, h⟩, Kp.refl _ _⟩
    · have hpos : 0 < n := by omega
      have hn := hleft n hd
      have hw : IntKind.i64.wrap ((n : Int) - 1) = ((n - 1 : Nat) : Int) := by rw [w64 (by omega) (by omega)]; omega
      simp -dsimp [go_sem, b2, b2f, hpos, hw]
      have hs : Kp (At x) w (w.setCell ⟨x, 2, none⟩ (i64 (n - 1 : Nat))) := (Kp.refl _ _).setCell_at _ _
      have e : D.done = ⟨D.room, D.fs, some (n - 1)⟩ := by simp [Dsk.done, hd]
      rw [e]
      refine ⟨⟨L, A, c, Q, he, ?_, h.own.kp hs h.offx, fun q hq => (h.bytes q hq).kp hs fun i hi e => (h.offq i hi).1 e, h.inn, h.offx, h.offq, fun i hi => Nat.lt_of_lt_of_le (h.lt i hi) hs.size⟩, hs⟩
      simpa [leftI] using h.blk.set 2 _
theorem bytesLess_eq : ∀ a b : Nm, Op.bytesLess a b = decide (a < b)
  | [], [] => by simp [Op.bytesLess]
  | [], _ :: _ => by simp [Op.bytesLess]
  | _ :: _, [] => by simp [Op.bytesLess]
  | x :: a, y :: b => by
    have ih := bytesLess_eq a b
    simp only [Op.bytesLess, ih, List.cons_lt_cons_iff]
    by_cases h1 : x < y
    · simp [h1]
    · by_cases h2 : x = y
      · subst h2; simp [h1]
      · have : ¬ x = y := h2
        simp [h1, h2]
theorem rspot_spec (s : Nm) (x room c : Nat) (left : Option Nat) (L : RL) (A : Option Addr) (Q F : Nat → Prop) (w : World) (h : RefM w x room left L A c Q F) (hll : L.length ≤ 4096) (hs : Srt L) :
    Cal Tryz.prog 188 #[.pointer (some ⟨x, 0, none⟩), str s] w fun v w' => v = .tuple #[i64 (spN L s), .bool (tLook L s).isSome] ∧ Nw w w' := by
  have b1 := h.blk.cell 1
  refine enter Tryz.mixed Tryz.func188 rfl (by kernel_rfl) ?_
  simp -dsimp [go_sem]
  refine loop [6, 7, 8, 9, 10, 11, 12, 13, 14, 15, 16, 17, 18, 19, 20, 21, 22, 23, 24, 25, 26, 27] (by kernel_rfl) (fun f w' => Box1 (fun a w' => ∃ i : Nat, i ≤ L.length ∧ a = i64 i ∧ spN L s = i + spN (L.drop i) s ∧ w' = w) (f 6) w') (fun f _ => L.length - (intOf (f 6)).toNat) ⟨0, Nat.zero_le _, rfl, by simp, rfl⟩ ?_
  rintro f w' ⟨i, hi, f6, hsp, rfl⟩
  have kd : Nw w' w'.drew := (Kp.refl _ _).drew
  have b1d := (h.nw kd).blk.cell 1
  have b1s : w'.cell? ⟨x, 1, none⟩ = some (.slice A L.length c) := b1
  by_cases hlt : i < L.length
  · obtain ⟨c0, c1, c2⟩ := fc_at L i hlt
    obtain ⟨b, o, rfl, hc0⟩ := h.own.rd _ _ c0
    rw [List.drop_eq_getElem_cons hlt] at hsp
    simp only [spN] at hsp
    by_cases hls : L[i].1 < s
    · rw [if_pos hls] at hsp
      have hki : IntKind.i64.wrap ((i : Int) + 1) = ((i + 1 : Nat) : Int) := w64 (by omega) (by omega)
      obtain ⟨i1, hi1⟩ : ∃ i1, i1 = i + 1 := ⟨_, rfl⟩
      rw [← hi1] at hki hsp
      simp -dsimp [go_sem, f6, b1, hlt, hc0, bytesLess_eq, hls, hki]
      exact ⟨⟨i1, by omega, rfl, by omega, rfl⟩, by simp [intOf]; omega⟩
    · rw [if_neg hls] at hsp
      have hin : (tLook L s).isSome = decide (L[i].1 = s) := by
        have hsp : spN L s = i := by omega
        cases ht : tLook L s with
        | none =>
          have := sp_not hs ht L[i] (by rw [hsp]; simp [hlt])
          simp [this]
        | some f =>
          have := sp_at hs ht
          rw [hsp, List.getElem?_eq_getElem hlt] at this
          injection this with this
          simp [this]
      have hsi : spN L s = i := by omega
      rw [hin, hsi]
      have hc0d := kd.cell_some hc0 fun h => h
      simp -dsimp [go_sem, f6, b1, hlt, hc0, bytesLess_eq, hls]
      refine draw (.take 0 (.take 1 (.take 2 (.take 3 (.take 4 (.take 5 (.take 6 (.take 7 (.take 8 (.take 9 (.take 10 (.take 11 (.take 12 (.take 13 (.take 14 (.take 15 (.take 16 (.take 17 (.take 18 (.take 19 (.take 20 (.take 21 .done)))))))))))))))))))))) (by kernel_rfl) (fun w1 => Nw w' w1) kd ?_
      simp -dsimp [go_sem, f6, b1d, hlt, hc0d]
      refine ⟨fun wz hz => by simp [hz.cell_some b1s fun h => h], fun wz hz => by simp [hz.cell_some hc0 fun h => h], ?_, kd⟩
      by_cases h : L[i].1 = s <;> simp [h]
  · obtain rfl : i = L.length := by omega
    rw [List.drop_length] at hsp
    have hsi : spN L s = L.length := by simpa [spN] using hsp
    have hin : tLook L s = none := by
      cases ht : tLook L s with
      | none => rfl
      | some f =>
        have := sp_at hs ht
        rw [hsi] at this
        simp at this
    rw [hin, hsi]
    simp -dsimp [go_sem, f6, b1]
    refine draw (.take 0 (.take 1 (.take 2 (.take 3 (.take 4 (.take 5 (.take 6 (.take 7 (.take 8 (.take 9 (.take 10 (.take 11 (.take 12 (.take 13 (.take 14 (.take 15 (.take 16 (.take 17 (.take 18 (.take 19 (.take 20 (.take 21 .done)))))))))))))))))))))) (by kernel_rfl) (fun w1 => Nw w' w1) kd ?_
    simp -dsimp [go_sem, f6, b1d, b1d]
    exact ⟨fun wz hz => by simp [hz.cell_some b1s fun h => h], kd⟩
end Go.Proofs.YtipdndmfngpbfaaGreatDoor

namespace Go.Proofs.YtipdndmfngpbfaaGreatDoor
set_option linter.unusedSimpArgs false
set_option linter.unusedVariables false
set_option maxRecDepth 100000
set_option maxHeartbeats 1000000
open Go.Vc Go.RowKit

theorem RefM.srt {w : World} {x room c : Nat} {left : Option Nat} {L : RL} {A : Option Addr} {Q F : Nat → Prop} (h : RefM w x room left L A c Q F) {D : Dsk} (e : mapv Prod.fst L = D.fs) (ok : D.Ok) : Srt L := srt_mapv (by rw [e]; exact ok.srt)
/-- How much of a file lasts, set anew. -/
theorem RefM.set2 {w : World} {x room c g : Nat} {left : Option Nat} {L : RL} {Q F : Nat → Prop} (h : RefM w x room left L (some ⟨g, 0, none⟩) c Q F) (i : Nat) (hlt : i < L.length) (n : Nat) :
    RefM (w.setCell ⟨g, i * 3 + 2, none⟩ (i64 n)) x room left (L.set i (L[i].1, (⟨L[i].2.1.b, n⟩, L[i].2.2))) (some ⟨g, 0, none⟩) c Q F ∧ Kp F w (w.setCell ⟨g, i * 3 + 2, none⟩ (i64 n)) := by
  have hs : Kp (At g) w (w.setCell ⟨g, i * 3 + 2, none⟩ (i64 n)) := (Kp.refl _ _).setCell_at _ _
  have hFg : F g := h.inn g (.inr (.inl rfl))
  have hxg : x ≠ g := fun e => h.offx _ rfl e.symm
  have hlen : (L.set i (L[i].1, (⟨L[i].2.1.b, n⟩, L[i].2.2))).length = L.length := by simp
  refine ⟨⟨?_, ?_, fun q hq => ?_, h.inn, h.offx, h.offq, fun k hk => Nat.lt_of_lt_of_le (h.lt k hk) hs.size⟩, hs.mono fun k _ e => by rw [show k = g from e]; exact hFg⟩
  · rw [hlen]; exact h.blk.kp hs fun e => hxg e
  · rw [hlen, ← fc_set2 L i hlt n]; exact ow_setN h.own _ _
  · have hb : Bv w q.2.2 q.2.1.b Q := by
      rcases List.mem_or_eq_of_mem_set hq with hq | rfl
      · exact h.bytes q hq
      · exact h.bytes L[i] (List.getElem_mem hlt)
    exact hb.kp hs fun k hk e => (h.offq k hk).2 (by rw [show k = g from e]; rfl)
theorem dRead_look {L : RL} {D : Dsk} (e : mapv Prod.fst L = D.fs) (s : Nm) : tLook D.fs s = (tLook L s).map Prod.fst := by rw [← e, tLook_mapv]
theorem rread_spec (s : Nm) (x : Nat) (D : Dsk) (F : Nat → Prop) (w : World) (h : RefD w x D F) (ok : D.Ok) :
    Cal Tryz.prog 138 #[.pointer (some ⟨x, 0, none⟩), str s] w fun v w' => Nw w w' ∧ ∃ u, v = .tuple #[u, i64 (dRead D s).2] ∧ Bs w' u (dRead D s).1 w.heap.size := by
  obtain ⟨L, A, c, Q, he, h⟩ := h
  have hll := h.lenL he ok
  have hsr := h.srt he ok
  have hlk := dRead_look he s
  refine enter Tryz.mixed Tryz.func138 rfl (by kernel_rfl) ?_
  simp -dsimp [go_sem]
  refine call (rspot_spec s x D.room c D.left L A Q F w h hll hsr) ?_
  rintro v w1 ⟨rfl, hk1⟩
  have h1 := h.nw hk1
  have b1 := h1.blk.cell 1
  cases ht : tLook L s with
  | none =>
    have e : dRead D s = ([], 7) := by unfold dRead; rw [hlk, ht]; rfl
    rw [e]
    simp -dsimp [go_sem]
    exact ⟨hk1, Bs.nil _ _⟩
  | some q =>
    obtain ⟨f, vv⟩ := q
    have e : dRead D s = (f.b, 0) := by unfold dRead; rw [hlk, ht]; rfl
    rw [e]
    have hat := sp_at hsr ht
    have hlt := (List.getElem?_eq_some_iff.1 hat).1
    have hLi := (List.getElem?_eq_some_iff.1 hat).2
    have hmem : (s, (f, vv)) ∈ L := List.mem_of_getElem? hat
    obtain ⟨B, d, hv, hrB, hd, hq⟩ := h1.bytes _ hmem
    simp only at hv hrB hd
    obtain ⟨_, c1, _⟩ := fc_at L (spN L s) hlt
    rw [hLi, hv] at c1
    obtain ⟨b, o, rfl, hc1⟩ := h1.own.rd _ _ c1
    rw [← Nat.add_assoc] at hc1
    have hub : f.b.length ≤ 1073741824 := by
      have h2 := sumv_ge (fun f : Fil => f.b.length) (show tLook D.fs s = some f by rw [hlk, ht]; rfl)
      have h3 := ok.used
      have h4 := ok.room
      have h5 : D.used = sumv (fun f : Fil => f.b.length) D.fs := rfl
      omega
    generalize spN L s = i at *
    have ka : Nw w1 (w1.alloc (.cells #[] 5)) := (Kp.refl _ _).alloc _
    have b1a := (h1.nw ka).blk.cell 1
    have hc1a := ka.cell_some hc1 fun h => h
    simp -dsimp [go_sem, b1, hlt, hc1, b1a, hc1a]
    refine bs_fresh (m := f.b) rfl rfl hrB (by omega) ?_
    intro v2 w2 hB2 hk2
    simp -dsimp [go_sem]
    exact ⟨hk1.nw hk2, hB2.mono hk1.size⟩
theorem rsync_spec (s : Nm) (x : Nat) (D : Dsk) (F : Nat → Prop) (w : World) (h : RefD w x D F) (ok : D.Ok) (hsl : s.length ≤ 9223372036854775807) :
    Cal Tryz.prog 132 #[.pointer (some ⟨x, 0, none⟩), str s] w fun v w' => v = i64 (dStep fSync D s).2 ∧ ∃ F', RefD w' x (dStep fSync D s).1 F' ∧ Gr F F' w w' ∧ Kp F w w' := by
  have hm := fun w1 (k : Nw w w1) (A : Option Addr) (c : Nat) (hr : Rd w1 A ([s].map fun s => str s)) => rmay_spec [s] A c x D F w1 (h.nw k) hr (by simp) (by simpa using hsl)
  obtain ⟨L, A, c, Q, he, h0⟩ := id h
  have hll := h0.lenL he ok
  have hsr := h0.srt he ok
  have hlk := dRead_look he s
  refine enter Tryz.mixed Tryz.func132 rfl (by kernel_rfl) ?_
  have ka : Nw w (w.alloc (.cells #[str s] 9)) := (Kp.refl _ _).alloc _
  simp -dsimp [go_sem]
  refine call (hm _ ka (some ⟨w.heap.size, 0, none⟩) 1 (Rd.fresh rfl rfl)) ?_
  rintro v w1 ⟨rfl, rfl⟩
  have e0 : dStep fSync D s = if mayL D [s] ≠ 0 then (D, mayL D [s]) else match tLook D.fs s with
    | none => (D, 7)
    | some x => ((fSync D s x).done, 0) := rfl
  by_cases hz : mayL D [s] = 0
  · rw [hz]
    rw [if_neg (by simp [hz])] at e0
    simp -dsimp [go_sem]
    refine call (rspot_spec s x D.room c D.left L A Q F _ (h0.nw ka) hll hsr) ?_
    rintro v w2 ⟨rfl, hk2⟩
    have n2 := ka.nw hk2
    have h2 := h0.nw n2
    cases ht : tLook L s with
    | none =>
      rw [hlk, ht] at e0
      rw [e0]
      simp -dsimp [go_sem]
      exact ⟨F, h.nw n2, fun k hk => .inl hk, Nw.kp n2 F⟩
    | some q =>
      obtain ⟨f, vv⟩ := q
      rw [hlk, ht] at e0
      rw [e0]
      have hat := sp_at hsr ht
      have hlt := (List.getElem?_eq_some_iff.1 hat).1
      have hLi := (List.getElem?_eq_some_iff.1 hat).2
      have hmem : (s, (f, vv)) ∈ L := List.mem_of_getElem? hat
      obtain ⟨B, d, hv, hrB, hd, hq⟩ := h2.bytes _ hmem
      simp only at hv hrB hd
      obtain ⟨_, c1, c2⟩ := fc_at L (spN L s) hlt
      have hold := sp_old hsr ht ((⟨f.b, f.b.length⟩ : Fil), vv)
      have hset := fun (g : Nat) (h3 : RefM w2 x D.room D.left L (some ⟨g, 0, none⟩) c Q F) => h3.set2 (spN L s) hlt f.b.length
      rw [hLi] at c1 c2 hset
      simp only at c1 c2 hset
      rw [← hold] at hset
      have hfs : mapv Prod.fst (tLay L s ((⟨f.b, f.b.length⟩ : Fil), vv)) = (fSync D s f).fs := by rw [mapv_lay, he]; rfl
      subst hv
      obtain ⟨g, rfl⟩ := h2.own.some (by omega)
      obtain ⟨b, o, e1, hc1⟩ := h2.own.rd _ _ c1
      cases e1
      obtain ⟨b, o, e1, hc2⟩ := h2.own.rd _ _ c2
      cases e1
      rw [Nat.zero_add] at hc1 hc2
      have hf2 := h2.own.frozen (spN L s * 3 + 2)
      obtain ⟨hM3, hK3⟩ := hset g h2
      have b1 : w2.cell? ⟨x, 1, none⟩ = some (.slice (some ⟨g, 0, none⟩) L.length c) := h2.blk.cell 1
      have hxg : x ≠ g := fun e => h2.offx _ rfl e.symm
      generalize spN L s = i at *
      have kd : Nw w2 w2.drew := (Kp.refl _ _).drew
      have b1d := kd.cell_some b1 fun h => h
      have hc1d := kd.cell_some hc1 fun h => h
      have hc2d := kd.cell_some hc2 fun h => h
      have hf2d : w2.drew.frozen? ⟨g, i * 3 + 2, none⟩ = false := hf2
      simp -dsimp [go_sem]
      refine draw (.take 0 (.take 1 (.take 2 (.take 3 (.take 4 (.take 5 (.take 6 (.take 7 (.take 8 (.take 9 (.take 10 (.take 11 (.take 12 (.take 13 (.take 14 (.take 15 (.alt 16 .done .stop))))))))))))))))) (by kernel_rfl) (fun wz => Kp (At g) w2 wz ∧ wz.cell? ⟨g, i * 3 + 1, none⟩ = some (.slice B f.b.length d)) ⟨Nw.kp kd _, hc1⟩ ?_
      simp -dsimp [go_sem, b1d, hlt, hc1d, hc2d, hf2d]
      refine ⟨fun wz hz hz1 => by simp [hz.cell_some b1 (fun (e : x = g) => hxg e)], fun wz hz hz1 => by simp [hz1], ⟨((Kp.refl _ _).setCell_at _ _).drew, hc1⟩, ?_⟩
      have hM4 := hM3.nw ((Kp.refl (fun _ => False) _).drew)
      have hR3 : RefD _ x (fSync D s f) F := ⟨_, _, _, _, hfs, hM4⟩
      refine call (rdid_spec x _ F _ hR3 (fun n hn => by have := ok.left n hn; omega)) ?_
      rintro v w4 ⟨rfl, hR4, hk4⟩
      simp -dsimp [go_sem]
      exact ⟨F, hR4, fun k hk => .inl hk, ((Nw.kp n2 F).trans hK3.drew fun _ _ h => h).trans hk4 fun k _ e => by rw [show k = x from e]; exact h2.inn _ (.inl rfl)⟩
  · have hz' : ((mayL D [s] : Int) != 0) = true := by simp; omega
    rw [if_pos hz] at e0
    rw [e0]
    simp -dsimp [go_sem, hz']
    exact ⟨F, h.nw ka, fun k hk => .inl hk, Nw.kp ka F⟩
end Go.Proofs.YtipdndmfngpbfaaGreatDoor

namespace Go.Proofs.YtipdndmfngpbfaaGreatDoor
set_option linter.unusedSimpArgs false
set_option linter.unusedVariables false
set_option maxRecDepth 100000
set_option maxHeartbeats 1000000
open Go.Vc Go.RowKit

/-- Another row of files, in a block that is new. -/
theorem refM_setL {w2 w4 : World} {x room c n c' : Nat} {left : Option Nat} {L L' : RL} {A A' : Option Addr} {Q Q' F : Nat → Prop} (h : RefM w2 x room left L A c Q F) (hK : Nw w2 w4) (hn : n = L'.length) (ho : Ow w4 152 3 A' n c' (fc L')) (hA : ∀ a, A' = some a → w2.heap.size ≤ a.block)
    (hb : ∀ q ∈ L', Bv w4 q.2.2 q.2.1.b Q') (hQ : ∀ k, Q' k → Q k ∨ w2.heap.size ≤ k ∧ k < w4.heap.size) (hQA : ∀ k, Q' k → ¬ blk A' k) :
    ∃ F', RefM (w4.setCell ⟨x, 1, none⟩ (.slice A' n c')) x room left L' A' c' Q' F' ∧ Gr F F' w2 (w4.setCell ⟨x, 1, none⟩ (.slice A' n c')) ∧ Kp F w2 (w4.setCell ⟨x, 1, none⟩ (.slice A' n c')) := by
  subst hn
  have hFx := h.inn x (.inl rfl)
  have hxl := h.lt x hFx
  have hs : Kp (At x) w4 (w4.setCell ⟨x, 1, none⟩ (.slice A' L'.length c')) := (Kp.refl _ _).setCell_at _ _
  have hAn : ∀ k, blk A' k → w2.heap.size ≤ k ∧ k < w4.heap.size := fun k hk => by
    obtain ⟨a, ha, rfl⟩ := blk_of hk
    exact ⟨hA a ha, ho.lt a ha⟩
  have hoff : Off A' (At x) := fun a ha e => by
    have := hA a ha
    have e : a.block = x := e
    omega
  have hQx : ∀ k, Q' k → k ≠ x := fun k hk e => by
    rcases hQ k hk with h1 | ⟨h1, _⟩
    · exact (h.offq k h1).1 e
    · omega
  refine ⟨fun k => F k ∨ blk A' k ∨ Q' k, ⟨by simpa using (h.blk.kp hK fun h => h).set 1 _, ho.kp hs hoff, fun q hq => (hb q hq).kp hs fun k hk e => hQx k hk e, fun k hk => ?_, hoff, fun k hk => ⟨hQx k hk, hQA k hk⟩, fun k hk => Nat.lt_of_lt_of_le ?_ hs.size⟩, fun k hk => ?_, (Nw.kp hK F).trans hs fun k _ e => by rw [show k = x from e]; exact hFx⟩
  · rcases hk with e | e | e
    · rw [e]; exact .inl hFx
    · exact .inr (.inl e)
    · exact .inr (.inr e)
  · rcases hk with e | e | e
    · exact Nat.lt_of_lt_of_le (h.lt k e) hK.size
    · exact (hAn k e).2
    · rcases hQ k e with e | e
      · exact Nat.lt_of_lt_of_le (h.lt k (h.inn k (.inr (.inr e)))) hK.size
      · exact e.2
  · rcases hk with e | e | e
    · exact .inl e
    · exact .inr ⟨(hAn k e).1, Nat.lt_of_lt_of_le (hAn k e).2 hs.size⟩
    · rcases hQ k e with e | e
      · exact .inl (h.inn k (.inr (.inr e)))
      · exact .inr ⟨e.1, Nat.lt_of_lt_of_le e.2 hs.size⟩
theorem rd_cut3 {w : World} {A : Option Addr} {xs : List Value} {c m : Nat} (h : Rd w A xs) (hc : xs.length ≤ c * 3) : Rd w (if c = m then A else A.map fun a => a.add (m * 3)) (xs.drop (m * 3)) := by
  split
  · rename_i e
    rw [List.drop_eq_nil_of_le (by omega)]
    exact Rd.nil _ _
  · exact h.drop' (m * 3)
theorem fc_one (L : RL) (hb : ∀ q ∈ L, ∃ B n d, q.2.2 = .slice B n d) : ∀ u ∈ fc L, u.oneCell' = true := by
  intro u hu
  obtain ⟨p, hp, h⟩ := List.mem_flatMap.1 hu
  obtain ⟨B, n, d, e⟩ := hb p hp
  simp at h
  rcases h with rfl | rfl | rfl
  · rfl
  · rw [e]; rfl
  · rfl
theorem RefM.slices {w : World} {x room c : Nat} {left : Option Nat} {L : RL} {A : Option Addr} {Q F : Nat → Prop} (h : RefM w x room left L A c Q F) : ∀ q ∈ L, ∃ B n d, q.2.2 = .slice B n d := fun q hq => by
  obtain ⟨B, d, e, _⟩ := h.bytes q hq
  exact ⟨B, _, d, e⟩
theorem rgoneM_spec (s : Nm) (x room c : Nat) (left : Option Nat) (L : RL) (A : Option Addr) (Q F : Nat → Prop) (w : World) (h : RefM w x room left L A c Q F) (hll : L.length ≤ 4096) (hsr : Srt L) :
    Cal Tryz.prog 192 #[.pointer (some ⟨x, 0, none⟩), str s] w fun v w' => v = .tuple #[] ∧ ∃ A' c' F', RefM w' x room left (tGone L s) A' c' Q F' ∧ Gr F F' w w' ∧ Kp (At x) w w' := by
  have hgo := trivial
  refine enter Tryz.mixed Tryz.func192 rfl (by kernel_rfl) ?_
  simp -dsimp [go_sem]
  refine call (rspot_spec s x room c left L A Q F w h hll hsr) ?_
  rintro v w1 ⟨rfl, hk1⟩
  have h1 := h.nw hk1
  cases ht : tLook L s with
  | none =>
    rw [gone_none ht]
    simp -dsimp [go_sem]
    exact ⟨A, c, F, h1, fun k hk => .inl hk, Nw.kp hk1 _⟩
  | some q =>
    have hat := sp_at hsr ht
    have hlt := (List.getElem?_eq_some_iff.1 hat).1
    rw [sp_gone hsr ht]
    generalize spN L s = i at *
    have b1 : w1.cell? ⟨x, 1, none⟩ = some (.slice A L.length c) := h1.blk.cell 1
    have kd : Nw w1 w1.drew := (Kp.refl _ _).drew
    have b1d := kd.cell_some b1 fun h => h
    have hlc := h1.own.2.1
    have hic : i ≤ c := by omega
    have hi1 : IntKind.i64.wrap ((i : Int) + 1) = ((i + 1 : Nat) : Int) := w64 (by omega) (by omega)
    have hi1c : i + 1 ≤ L.length := by omega
    have hil : i ≤ L.length := by omega
    have hlen1 : (L.take i).length = i := by simp [Nat.min_eq_left hil]
    have hlen2 : (L.drop (i + 1)).length = L.length - (i + 1) := by simp
    obtain ⟨i1, hi1'⟩ : ∃ i1, i1 = i + 1 := ⟨_, rfl⟩
    rw [← hi1'] at hi1 hi1c hlen2 ⊢
    have hone1 : ∀ u ∈ fc (L.take i), u.oneCell' = true := fc_one _ fun q hq => h1.slices q (List.mem_of_mem_take hq)
    have hone2 : ∀ u ∈ fc (L.drop i1), u.oneCell' = true := fc_one _ fun q hq => h1.slices q (List.mem_of_mem_drop hq)
    simp -dsimp [go_sem]
    refine drawD (.take 0 (.take 2 (.take 3 (.take 4 (.take 5 (.take 6 (.take 7 (.take 9 (.take 10 (.take 11 (.take 12 (.take 13 (.take 14 (.take 15 (.alt 1 (.alt 8 (.alt 16 (.alt 17 (.alt 18 (.alt 19 .done .stop) .stop) .stop) .stop) .stop) .stop))))))))))))))) 19 (by kernel_rfl) (fun wz => Nw w1 wz) kd ?_
    simp -dsimp [go_sem, b1d, hic, hil, hi1, hi1c]
    have ka : Nw w1 (w1.alloc (.cells #[] 152)).drew := ((Kp.refl _ _).alloc _).drew
    refine ⟨fun wz hz => by simp [hz.cell_some b1 fun h => h], ka, ?_⟩
    refine gs_app SFile (B := w1.heap.size) ((Gs.made w1 152 3 0 #[] rfl rfl rfl (by simp [maxLen]) (Nat.le_refl _)).nw ((Kp.refl _ _).drew)) (ys := fc (L.take i)) (m := i) (by rw [← fc_take _ _ hil]; exact (h1.own.rd.nw ka).take _) (by rw [fc_len, hlen1]) hone1 (by omega) (by omega) ka.size ?_
    intro v2 w2 hG2 hk2
    have n2 : Nw w1 w2 := Nw.fr ka hk2 (Nat.le_refl _)
    rw [List.nil_append] at hG2
    obtain ⟨m2, hm2⟩ : ∃ m2, m2 = 0 + i := ⟨_, rfl⟩
    rw [← hm2] at hG2
    obtain ⟨A2, c2, rfl, ho2, hA2⟩ := id hG2
    refine ⟨.inr n2, ?_⟩
    simp -dsimp [go_sem]
    have hrX := rd_cut3 (h1.own.rd.nw n2) (c := c) (m := i1) (by rw [fc_len]; omega)
    rw [fc_drop _ _ hi1c] at hrX
    refine gs_app SFile hG2 (ys := fc (L.drop i1)) hrX (m := L.length - i1) (by rw [fc_len, hlen2]) hone2 (by omega) (by omega) n2.size ?_
    intro v3 w3 hG3 hk3
    have n3 : Nw w1 w3 := Nw.fr n2 hk3 (Nat.le_refl _)
    rw [← fc_app] at hG3
    obtain ⟨m3, hm3⟩ : ∃ m3, m3 = m2 + (L.length - i1) := ⟨_, rfl⟩
    rw [← hm3] at hG3
    obtain ⟨A3, c3, rfl, ho3, hA3⟩ := id hG3
    refine ⟨.inr n3, ?_⟩
    have b13 := (h1.nw n3).blk.cell 1
    have b13f := (h1.nw n3).blk.frozen 1
    simp -dsimp [go_sem, b13, b13f]
    have hfl : m3 = (L.take i ++ L.drop i1).length := by rw [List.length_append, hlen1, hlen2]; omega
    obtain ⟨F', hR', hG', hK'⟩ := refM_setL h1 n3 hfl ho3 hA3 (Q' := Q) (fun q hq => by
      have hq' : q ∈ L := by
        rcases List.mem_append.1 hq with hq | hq
        · exact List.mem_of_mem_take hq
        · exact List.mem_of_mem_drop hq
      exact (h1.bytes q hq').kp n3 fun _ _ h => h) (fun k hk => .inl hk) (fun k hk e => by
      obtain ⟨a, ha, rfl⟩ := blk_of e
      have h5 := hA3 a ha
      have h6 := h1.lt _ (h1.inn _ (.inr (.inr hk)))
      omega)
    exact ⟨n3, _, _, F', hR', Gr.wide hG' hk1.size (Nat.le_refl _), (Nw.kp hk1 _).trans ((Nw.kp n3 (At x)).trans ((Kp.refl _ _).setCell_at _ _) fun _ _ h => h) fun _ _ h => h⟩
theorem rgone_spec (s : Nm) (x : Nat) (D : Dsk) (F : Nat → Prop) (w : World) (h : RefD w x D F) (ok : D.Ok) :
    Cal Tryz.prog 192 #[.pointer (some ⟨x, 0, none⟩), str s] w fun v w' => v = .tuple #[] ∧ ∃ F', RefD w' x { D with fs := tGone D.fs s } F' ∧ Gr F F' w w' ∧ Kp F w w' := by
  obtain ⟨L, A, c, Q, he, h⟩ := h
  refine (rgoneM_spec s x D.room c D.left L A Q F w h (h.lenL he ok) (h.srt he ok)).mono ?_
  rintro v w' ⟨rfl, A', c', F', hM, hG, hK⟩
  exact ⟨rfl, F', ⟨_, _, _, _, by rw [mapv_gone, he], hM⟩, hG, hK.mono fun k _ (e : k = x) => e ▸ h.inn x (.inl rfl)⟩
theorem rremove_spec (s : Nm) (x : Nat) (D : Dsk) (F : Nat → Prop) (w : World) (h : RefD w x D F) (ok : D.Ok) (hsl : s.length ≤ 9223372036854775807) :
    Cal Tryz.prog 136 #[.pointer (some ⟨x, 0, none⟩), str s] w fun v w' => v = i64 (dStep fRemove D s).2 ∧ ∃ F', RefD w' x (dStep fRemove D s).1 F' ∧ Gr F F' w w' ∧ Kp F w w' := by
  have hm := fun w1 (k : Nw w w1) (A : Option Addr) (c : Nat) (hr : Rd w1 A ([s].map fun s => str s)) => rmay_spec [s] A c x D F w1 (h.nw k) hr (by simp) (by simpa using hsl)
  obtain ⟨L, A, c, Q, he, h0⟩ := id h
  have hll := h0.lenL he ok
  have hsr := h0.srt he ok
  have hlk := dRead_look he s
  refine enter Tryz.mixed Tryz.func136 rfl (by kernel_rfl) ?_
  have ka : Nw w (w.alloc (.cells #[str s] 9)) := (Kp.refl _ _).alloc _
  simp -dsimp [go_sem]
  refine call (hm _ ka (some ⟨w.heap.size, 0, none⟩) 1 (Rd.fresh rfl rfl)) ?_
  rintro v w1 ⟨rfl, rfl⟩
  have e0 : dStep fRemove D s = if mayL D [s] ≠ 0 then (D, mayL D [s]) else match tLook D.fs s with
    | none => (D, 7)
    | some x => ((fRemove D s x).done, 0) := rfl
  by_cases hz : mayL D [s] = 0
  · rw [hz]
    rw [if_neg (by simp [hz])] at e0
    simp -dsimp [go_sem]
    refine call (rspot_spec s x D.room c D.left L A Q F _ (h0.nw ka) hll hsr) ?_
    rintro v w2 ⟨rfl, hk2⟩
    have n2 := ka.nw hk2
    cases ht : tLook L s with
    | none =>
      rw [hlk, ht] at e0
      rw [e0]
      simp -dsimp [go_sem]
      exact ⟨F, h.nw n2, fun k hk => .inl hk, Nw.kp n2 F⟩
    | some q =>
      rw [hlk, ht] at e0
      rw [e0]
      simp -dsimp [go_sem]
      refine call (rgone_spec s x D F w2 (h.nw n2) ok) ?_
      rintro v w3 ⟨rfl, F3, hR3, hG3, hK3⟩
      simp -dsimp [go_sem]
      refine call (rdid_spec x _ F3 _ hR3 (fun n hn => by have := ok.left n hn; omega)) ?_
      rintro v w4 ⟨rfl, hR4, hk4⟩
      have hx3 : F3 x := by
        obtain ⟨_, _, _, _, _, h5⟩ := hR3
        exact h5.inn x (.inl rfl)
      simp -dsimp [go_sem]
      exact ⟨F3, hR4, Gr.wide hG3 n2.size hk4.size, Kp.gr ((Nw.kp n2 F).trans hK3 fun _ _ h => h) (Gr.wide hG3 n2.size (Nat.le_refl _)) (hk4.mono fun k _ e => by rw [show k = x from e]; exact hx3)⟩
  · have hz' : ((mayL D [s] : Int) != 0) = true := by simp; omega
    rw [if_pos hz] at e0
    rw [e0]
    simp -dsimp [go_sem, hz']
    exact ⟨F, h.nw ka, fun k hk => .inl hk, Nw.kp ka F⟩
end Go.Proofs.YtipdndmfngpbfaaGreatDoor

