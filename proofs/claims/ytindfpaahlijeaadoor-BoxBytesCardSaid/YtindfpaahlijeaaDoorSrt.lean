/-
  slices.Sort of integers, by the kit's contract. By the session itself.
-/
import Derived.Test.YtindfpaahlijeaaDoorBs
import Derived.Test.YtindfpaahlijeaaDoorLay
namespace Go.Proofs.YtindfpaahlijeaaDoor
set_option linter.unusedSimpArgs false
set_option linter.unusedVariables false
set_option maxRecDepth 100000
set_option maxHeartbeats 1000000
open Go.Vc Go.RowKit Go.Sort

abbrev srtI (zs : List Int) : List Int := zs.mergeSort fun x y => decide (x ≤ y)
theorem isort_spec (zs : List Int) (n : Nat) (hn : n = zs.length) (hl : zs.length < 4611686018427387904) (A : Option Addr) (c : Nat) (w : World) (ho : Ow w 3 1 A n c (zs.map i64)) :
    Cal Tryd.prog 45 #[.slice A n c] w fun v w' => v = .tuple #[] ∧ Rd w' A ((srtI zs).map i64) ∧ Kp (blk A) w w' := by
  subst hn
  have hrd := ho.rd
  obtain ⟨h1, h2, h3, ⟨rfl, rfl⟩ | ⟨g, cur, rfl, hb, h5, h6⟩⟩ := id ho
  · have hz : zs = [] := List.eq_nil_of_length_eq_zero (by omega)
    subst hz
    refine (AnyM.slices_Sort_int_none Tryd.sort45 none 0 w).mono fun e w' ⟨he, hw⟩ => ⟨_, he, rfl, ?_, ?_⟩
    · rw [hw, show srtI [] = [] by simp [srtI]]; exact Rd.nil _ _
    · rw [hw]; exact Kp.refl _ _
  · have hlt : g < w.heap.size := lt_of_heap hb
    have hH : Sort.Holds (Value.int .i64) w g 0 zs.toArray := fun j hj => by
      have hj' : j < zs.length := by simpa using hj
      obtain ⟨b, o, e, hc⟩ := hrd j (i64 zs[j]) (by simp [hj'])
      cases e
      refine ⟨?_, hb.frozen _⟩
      rw [hc]
      simp [getElem!_pos, hj']
    refine (AnyM.slices_Sort_int Tryd.sort45 g 0 c zs w hH hlt hl).mono fun e w' ⟨he, n, os, hw⟩ => ⟨_, he, rfl, ?_, ?_⟩
    · intro j u hj
      have hlen : (srtI zs).length = zs.length := by simp [srtI]
      have hjl : j < (srtI zs).length := by
        have := (List.getElem?_eq_some_iff.1 hj).1
        simpa using this
      refine ⟨g, 0, rfl, ?_⟩
      have hu : u = i64 (srtI zs)[j] := by
        rw [List.getElem?_map, List.getElem?_eq_getElem hjl] at hj
        simpa using hj.symm
      rw [hw, Sort.cell?_grow _ _ _ (by simpa using hlt), Sort.cell?_putRow _ (Sort.ahead w n) g 0 zs.toArray _ hH (by simp) j (by simpa using hjl), hu]
      simp [getElem!_pos, hjl]
      show ((srtI zs)[j]?).getD 0 = _
      rw [List.getElem?_eq_getElem hjl]
      rfl
    · rw [hw]
      refine ⟨rfl, rfl, rfl, by simp, fun i hi hn => ?_⟩
      rw [Sort.heap_grow_old _ _ (by simpa using hi)]
      show ((Sort.ahead w n).heap.modify g _)[i]? = _
      rw [Array.getElem?_modify, if_neg (fun e => hn e.symm)]
      rfl

end Go.Proofs.YtindfpaahlijeaaDoor
