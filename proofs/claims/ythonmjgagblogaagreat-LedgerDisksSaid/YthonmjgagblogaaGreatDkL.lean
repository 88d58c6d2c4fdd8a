/-
  List of a disk walked: the names, rising. By the session itself; on the kit's contracts on slices.Sorted(maps.Keys(m)).
-/
import Derived.Test.YthonmjgagblogaaGreatDkI
import Derived.Test.YthonmjgagblogaaGreatLay
namespace Go.Proofs.YthonmjgagblogaaGreat
set_option linter.unusedSimpArgs false
set_option linter.unusedVariables false
set_option maxRecDepth 100000
set_option maxHeartbeats 1000000
open Go.Vc Go.RowKit

theorem laySorts (m : Nat) : AnyZ.SortsIn Tryz.prog Tryz.sorted71_ren Fence.wide m :=
  ⟨fun blk off cap ss W hH hblk hsz => callsIn_wide.2 (AnyM.slices_Sort_string Tryz.sort93 blk off cap ss W hH hblk hsz),
   fun p cap W => callsIn_wide.2 (AnyM.slices_Sort_string_none Tryz.sort93 p cap W)⟩
theorem layKeys (mb : Option Nat) (W : World) : CallsIn Fence.wide 5 Tryz.prog 72 #[.map mb] W fun e w' => e = .returned (.func (.func 94) #[] #[.pointer (some ⟨W.heap.size, 0, none⟩)]) ∧ w' = W.alloc (.cells #[.map mb] 38) :=
  AnyZ.keys_in Tryz.keys72 Fence.wide 5 trivial rfl mb W
theorem laySorted {H : Type} (b nn : Nat) (D0 : DataW H) (R : Value → Option (DataW H × List MemPlace)) (w : World) (hown : w.ownsMap Tryz.prog 9 R b nn D0) (hmax : Maps.size D0 ≤ maxLen) (hbytes : Maps.size D0 * 16 ≤ 140737488355328) :
    CallsIn Fence.wide 5 Tryz.prog 71 #[.func (.func 94) #[] #[.pointer (some ⟨w.heap.size, 0, none⟩)]] (w.alloc (.cells #[.map (some b)] 38)) fun e w' => ∃ (v : Value) (ss : List (List UInt8)), e = .returned v ∧ ss.Perm (strKeys D0) ∧
      w'.ownsRow (w.alloc (.cells #[.map (some b)] 38)).heap.size 9 1 v ss.length ((ss.mergeSort (fun x y => decide (x ≤ y))).map encStr) ∧ (v = .slice none 0 0 ↔ ss = []) ∧ Below (w.alloc (.cells #[.map (some b)] 38)).heap.size (w.alloc (.cells #[.map (some b)] 38)) w' := by
  have hbl := hown.lt
  have hseq : SeqGives Fence.wide 2 Tryz.prog 94 #[.pointer (some ⟨w.heap.size, 0, none⟩)] encStr (fun ss => ss.Perm (strKeys D0)) (Maps.size D0) (w.alloc (.cells #[.map (some b)] 38)) :=
    AnyZ.keys_gives (ρ := Tryz.keys72_ren) { Tryz.keys72 with } Fence.wide _ trivial rfl (by omega) w.heap.size b nn D0 _ (by simp) (by simp) (by
      obtain ⟨es, clock, hb, Ft, hs, hD⟩ := hown
      exact ⟨es, clock, (Below.heap_alloc _ _ b hbl).trans hb, Ft, hs, hD⟩)
  exact AnyZ.sorted_in Tryz.sorted71 Fence.wide 5 trivial trivial trivial trivial rfl (by omega) (laySorts _) (enters_of Tryz.func93 (by kernel_rfl) rfl) 94 #[.pointer (some ⟨w.heap.size, 0, none⟩)] trivial (enters_of Tryz.func94 (by kernel_rfl) rfl) _ _ hmax hbytes _ hseq

/-- Every element reads as nothing. -/
def R0 : Value → Option (DataW Unit × List MemPlace) := fun _ => some (.nil, [])
theorem owns_of_mp {P : Program} {k : TypeId} (hk : P.underlying k = some .string) {w : World} {r : Nat} {m : Nm → Option Value} (h : Mp w r (fun l : Nm => str l) m) {l : List Nm} (nd : l.Nodup) (hm : ∀ a, (m a).isSome = true ↔ a ∈ l) (hb : ∀ a ∈ l, a.length ≤ maxLen) (hl : l.length ≤ maxLen) :
    ∃ D0 : DataW Unit, w.ownsMap P k R0 r l.length D0 ∧ (strKeys D0).Perm l ∧ Maps.size D0 = l.length := by
  obtain ⟨E, clock, hh, hE⟩ := h
  have key : ∀ x ∈ E.toList, ∃ a : Nm, x.key = str a ∧ a ∈ l := fun x hx => by
    obtain ⟨a, ha⟩ := hE.keys x hx
    exact ⟨a, ha, (hm a).1 (by rw [(hE.has a x.val).2 ⟨x, hx, ha, rfl⟩]; rfl)⟩
  have rdx : ∀ x ∈ E.toList, ∀ a : Nm, x.key = str a → a ∈ l → WideElems.rd P k R0 x = some (.string a, .nil) := fun x hx a ha hal => by
    have hs : (⟨a.toArray⟩ : ByteArray).size ≤ maxLen := by simpa [ByteArray.size] using hb a hal
    have hko : keyOf P k (str a) = some (.string a) := by
      simp [keyOf, hk, mapKey, hs]
    unfold WideElems.rd
    rw [ha, hko]
    rfl
  have hperm : (E.toList.map fun x => strOf (WideElems.rg P k R0 x).1).Perm l := by
    refine (List.perm_ext_iff_of_nodup ?_ nd).2 fun a => ?_
    · refine List.pairwise_map.2 (hE.apart.imp_of_mem fun {x y} hx hy hne => ?_)
      obtain ⟨a, ha, hal⟩ := key x hx
      obtain ⟨b, hb', hbl⟩ := key y hy
      unfold WideElems.rg
      rw [rdx x hx a ha hal, rdx y hy b hb' hbl]
      simp only [Option.getD_some, strOf]
      intro e
      exact hne (by rw [ha, hb', e])
    · constructor
      · intro h
        obtain ⟨x, hx, rfl⟩ := List.mem_map.1 h
        obtain ⟨a, ha, hal⟩ := key x hx
        unfold WideElems.rg
        rw [rdx x hx a ha hal]
        exact hal
      · intro hal
        have := (hm a).2 hal
        cases hma : m a with
        | none => rw [hma] at this; cases this
        | some u =>
          obtain ⟨x, hx, hxk, _⟩ := (hE.has a u).1 hma
          refine List.mem_map.2 ⟨x, hx, ?_⟩
          unfold WideElems.rg
          rw [rdx x hx a hxk hal]
          rfl
  have hlen : E.size = l.length := by
    have := hperm.length_eq
    rw [List.length_map, Array.length_toList] at this
    exact this
  refine ⟨.map ((E.toList.map (WideElems.rg P k R0)).foldr DataW.insert []), ⟨E, clock, hh, ⟨by omega, ?_, fun x hx => ?_⟩, by omega, rfl⟩, ?_, ?_⟩
  · exact ⟨hE.old, hE.stamps, List.pairwise_map.2 hE.apart⟩
  · obtain ⟨a, ha, hal⟩ := key x hx
    exact ⟨_, rdx x hx a ha hal⟩
  · have h1 := (Go.WideShapes.sorted_perm (E.toList.map (WideElems.rg P k R0))).map fun p => strOf p.1
    refine List.Perm.trans h1 ?_
    rw [List.map_map]
    exact hperm
  · have h1 := (Go.WideShapes.sorted_perm (E.toList.map (WideElems.rg P k R0))).length_eq
    rw [Maps.size_eq, h1, List.length_map, Array.length_toList, hlen]
theorem keys_sorted {β : Type} {l : List (Nm × β)} (h : Srt l) : (keysA l).mergeSort (fun x y => decide (x ≤ y)) = keysA l := by
  refine List.mergeSort_of_pairwise ?_
  refine List.pairwise_map.2 (List.Pairwise.imp (R := fun x y : Nm × β => x.1 < y.1) (fun {a b} h => ?_) h)
  have : ¬ b.1 < a.1 := fun h' => nm_lt_irrefl _ (nm_lt_trans h h')
  simpa using this
theorem dlist_spec (g : Nat) (D : Dsk) (F : Nat → Prop) (w : World) (h : Dk w g D F) :
    Cal Tryz.prog 37 #[.pointer (some ⟨g, 0, none⟩)] w fun v w' => Nw w w' ∧ ∃ A c, v = .slice A D.fs.length c ∧ Rd w' A ((keysA D.fs).map fun s => str s) ∧ D.fs.length ≤ c ∧ ∀ a, A = some a → w.heap.size ≤ a.block := by
  obtain ⟨ok, r, z, ptr, Fs, hM⟩ := id h
  have g1 := hM.blk.cell 1
  have hks : ∀ t, (Mf ptr D.fs t).isSome = true ↔ t ∈ keysA D.fs := fun t => by rw [← tLook_keys]; simp [Mf]
  have hnd : (keysA D.fs).Nodup := List.pairwise_map.2 (List.Pairwise.imp (R := fun x y : Nm × Fil => x.1 < y.1) (fun h e => nm_ne h e) ok.srt)
  have hkl : (keysA D.fs).length = D.fs.length := by simp [keysA]
  have hmany := ok.many
  obtain ⟨D0, hown, hperm, hsize⟩ := owns_of_mp (P := Tryz.prog) (k := 9) (by kernel_rfl) hM.mp hnd hks (fun a ha => by
    obtain ⟨x, hx⟩ := Option.isSome_iff_exists.1 ((tLook_keys a).2 ha)
    have := ok.names a x hx
    simp only [maxLen]; omega) (by simp only [maxLen]; omega)
  refine enter Tryz.mixed Tryz.func37 rfl (by kernel_rfl) ?_
  simp -dsimp [go_sem, g1]
  refine call (R := fun v w' => v = .func (.func 94) #[] #[.pointer (some ⟨w.heap.size, 0, none⟩)] ∧ w' = w.alloc (.cells #[.map (some r)] 38)) ((callsIn_wide.1 (layKeys (some r) w)).mono fun e w' ⟨he, hw⟩ => ⟨_, he, rfl, hw⟩) ?_
  rintro v w1 ⟨rfl, rfl⟩
  simp -dsimp [go_sem]
  have hs := callsIn_wide.1 (laySorted r _ D0 R0 w hown (by rw [hsize]; simp only [maxLen]; omega) (by rw [hsize]; omega))
  have ka : Nw w (w.alloc (.cells #[.map (some r)] 38)) := (Kp.refl _ _).alloc _
  refine call (R := fun v w' => ∃ ss : List (List UInt8), ss.Perm (strKeys D0) ∧ w'.ownsRow (w.alloc (.cells #[.map (some r)] 38)).heap.size 9 1 v ss.length ((ss.mergeSort (fun x y => decide (x ≤ y))).map encStr) ∧ Below (w.alloc (.cells #[.map (some r)] 38)).heap.size (w.alloc (.cells #[.map (some r)] 38)) w') (hs.mono fun e w' ⟨v, ss, he, h1, h2, _, h3⟩ => ⟨v, he, ss, h1, h2, h3⟩) ?_
  rintro v w2 ⟨ss, h1, h2, h3⟩
  have hss : ss.mergeSort (fun x y => decide (x ≤ y)) = keysA D.fs := by
    rw [← keys_sorted ok.srt]
    exact mergeSort_of_perm (h1.trans hperm)
  have hlen : ss.length = D.fs.length := by
    have := (h1.trans hperm).length_eq
    rw [this, hkl]
  rw [hss, hlen] at h2
  simp -dsimp [go_sem]
  have kb : Nw (w.alloc (.cells #[.map (some r)] 38)) w2 := ⟨h3.os, h3.tape, h3.output, h3.size, fun k hk _ => h3.block k hk⟩
  refine ⟨ka.nw kb, ?_⟩
  obtain ⟨g1, ⟨rfl, g2⟩ | ⟨p, cap, cur, rfl, g2, g3, g4, g5, g6, g7⟩⟩ := h2
  · have : D.fs = [] := List.eq_nil_of_length_eq_zero g2
    rw [this]
    exact ⟨none, 0, rfl, Rd.nil _ _, Nat.le_refl _, by simp⟩
  · refine ⟨some ⟨p, 0, none⟩, cap, rfl, ?_, g4, fun a ha => ?_⟩
    · have := (Rd.of_heap g3).take (D.fs.length * 1)
      rw [g7] at this
      exact this
    · cases ha
      show w.heap.size ≤ p
      simp at g2
      omega
end Go.Proofs.YthonmjgagblogaaGreat
