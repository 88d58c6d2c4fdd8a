/-
  DiskPlays: one step, on both sides. By the session itself.
-/
import Derived.Test.YthonmjgagblogaaDkZ
import Derived.Test.YthonmjgagblogaaArs
namespace Go.Proofs.Ythonmjgagblogaa
set_option linter.unusedSimpArgs false
set_option linter.unusedVariables false
set_option maxRecDepth 100000
set_option maxHeartbeats 1000000
open Go.Vc Go.RowKit

/-- Both, alike. -/
abbrev Bo (w0 w : World) (d x : Nat) (D : Dsk) : Prop := Pr w0 w (fun _ => False) d D x D
theorem does_sync (w0 w : World) (d x : Nat) (D : Dsk) (s : Sp) (T : Bo w0 w d x D) (hs : SpG w0 s) (hp8 : s.p.length ≤ 8000) (hk : s.kind = 2) :
    Cal Try.prog 18 #[.pointer (some ⟨d, 0, none⟩), .pointer (some ⟨x, 0, none⟩), .agg #[i64 s.kind, i64 s.n, str s.a, str s.b, s.v]] w fun u w' => u = .bool true ∧ ∃ D', Bo w0 w' d x D' := by
  obtain ⟨kd, n, a, b, p, v⟩ := s
  obtain ⟨⟨A, c, hv, hr0, hc⟩, ha, hb, hp, hn1, hn2⟩ := hs
  simp only at hv hr0 hc ha hb hp hn1 hn2 hk hp8
  subst hv
  refine enter Try.mixed Try.func18 rfl (by kernel_rfl) ?_
  have ka : Nw w (w.alloc (.cells #[i64 kd, i64 n, str a, str b, .slice A p.length c] 34)) := (Kp.refl _ _).alloc _
  have hx0 := Blk.new w 34 #[i64 kd, i64 n, str a, str b, .slice A p.length c]
  obtain ⟨z, hz⟩ : ∃ z, z = w.heap.size := ⟨_, rfl⟩
  have hwz : w0.heap.size ≤ z := by rw [hz]; exact T.on.size
  rw [← hz] at hx0
  have T1 : Pr w0 _ (At z) d D x D := (T.new (N' := At z) fun i (e : i = z) => .inr (by omega)).nw ka
  have hNz : ∀ i, At z i → i < (w.alloc (.cells #[i64 kd, i64 n, str a, str b, .slice A p.length c] 34)).heap.size := fun i (e : i = z) => by simp; omega
  subst hk
  simp -dsimp [go_sem]
  rw [← hz]
  generalize w.alloc (.cells #[i64 2, i64 n, str a, str b, .slice A p.length c] 34) = wa at *
  have c1 : wa.cell? ⟨z, 1, none⟩ = some (i64 n) := hx0.cell 1
  have c2 : wa.cell? ⟨z, 2, none⟩ = some (str a) := hx0.cell 2
  have c3 : wa.cell? ⟨z, 3, none⟩ = some (str b) := hx0.cell 3
  have c4 : wa.cell? ⟨z, 4, none⟩ = some (.slice A p.length c) := hx0.cell 4
  have hzN : ¬ Ns w0 (At z) z := fun h => h.2 rfl
  have kd0 : Kp (Ns w0 (At z)) wa wa.drew := (Kp.refl _ _).drew
  have kdN : Nw wa wa.drew := (Kp.refl _ _).drew
  have c1d := kd0.cell_some c1 hzN
  have c2d := kd0.cell_some c2 hzN
  have c3d := kd0.cell_some c3 hzN
  have c4d := kd0.cell_some c4 hzN
  refine draw (.take 0 (.take 1 (.take 2 (.take 5 (.take 6 (.take 7 (.alt 3 (.alt 4 (.alt 8 (.take 9 (.take 10 .done)) .stop) .stop) .stop))))))) (by kernel_rfl) (fun wz => Kp (Ns w0 (At z)) wa wz) kd0 ?_
  simp -dsimp [go_sem, c2d]
  repeat refine ⟨fun wz hz => by simp [hz.cell_some c1 hzN, hz.cell_some c2 hzN, hz.cell_some c3 hzN, hz.cell_some c4 hzN], ?_⟩
  have kb : Nw wa (wa.alloc (.cells #[str a] 9)).drew := ((Kp.refl _ _).alloc _).drew
  refine ⟨Nw.kp kb _, ?_⟩
  refine call (T1.psync kb (fun i hi => Nat.lt_of_lt_of_le (hNz i hi) kb.size) a wa.heap.size (Nat.le_refl _) ((Rd.fresh (w := wa) rfl rfl).nw ((Kp.refl _ _).drew)) (by omega)) ?_
  rintro u w2 ⟨rfl, T2, hk2⟩
  have hk02 := (Nw.kp kb (Ns w0 (At z))).trans hk2 fun _ _ h => h
  refine ⟨hk02, ?_⟩
  simp -dsimp [go_sem]
  refine call (T2.rsync T.ok (Kp.refl _ _) (fun i hi => Nat.lt_of_lt_of_le (hNz i hi) hk02.size) a (by omega)) ?_
  rintro u w3 ⟨rfl, T3, hk3⟩
  refine ⟨hk02.trans hk3 fun _ _ h => h, ?_⟩
  simp -dsimp [go_sem]
  exact ⟨_, T3.new fun i h => h.elim⟩
theorem does_remove (w0 w : World) (d x : Nat) (D : Dsk) (s : Sp) (T : Bo w0 w d x D) (hs : SpG w0 s) (hp8 : s.p.length ≤ 8000) (hk : s.kind = 5) :
    Cal Try.prog 18 #[.pointer (some ⟨d, 0, none⟩), .pointer (some ⟨x, 0, none⟩), .agg #[i64 s.kind, i64 s.n, str s.a, str s.b, s.v]] w fun u w' => u = .bool true ∧ ∃ D', Bo w0 w' d x D' := by
  obtain ⟨kd, n, a, b, p, v⟩ := s
  obtain ⟨⟨A, c, hv, hr0, hc⟩, ha, hb, hp, hn1, hn2⟩ := hs
  simp only at hv hr0 hc ha hb hp hn1 hn2 hk hp8
  subst hv
  refine enter Try.mixed Try.func18 rfl (by kernel_rfl) ?_
  have ka : Nw w (w.alloc (.cells #[i64 kd, i64 n, str a, str b, .slice A p.length c] 34)) := (Kp.refl _ _).alloc _
  have hx0 := Blk.new w 34 #[i64 kd, i64 n, str a, str b, .slice A p.length c]
  obtain ⟨z, hz⟩ : ∃ z, z = w.heap.size := ⟨_, rfl⟩
  have hwz : w0.heap.size ≤ z := by rw [hz]; exact T.on.size
  rw [← hz] at hx0
  have T1 : Pr w0 _ (At z) d D x D := (T.new (N' := At z) fun i (e : i = z) => .inr (by omega)).nw ka
  have hNz : ∀ i, At z i → i < (w.alloc (.cells #[i64 kd, i64 n, str a, str b, .slice A p.length c] 34)).heap.size := fun i (e : i = z) => by simp; omega
  subst hk
  simp -dsimp [go_sem]
  rw [← hz]
  generalize w.alloc (.cells #[i64 5, i64 n, str a, str b, .slice A p.length c] 34) = wa at *
  have c1 : wa.cell? ⟨z, 1, none⟩ = some (i64 n) := hx0.cell 1
  have c2 : wa.cell? ⟨z, 2, none⟩ = some (str a) := hx0.cell 2
  have c3 : wa.cell? ⟨z, 3, none⟩ = some (str b) := hx0.cell 3
  have c4 : wa.cell? ⟨z, 4, none⟩ = some (.slice A p.length c) := hx0.cell 4
  have hzN : ¬ Ns w0 (At z) z := fun h => h.2 rfl
  have kd0 : Kp (Ns w0 (At z)) wa wa.drew := (Kp.refl _ _).drew
  have kdN : Nw wa wa.drew := (Kp.refl _ _).drew
  have c1d := kd0.cell_some c1 hzN
  have c2d := kd0.cell_some c2 hzN
  have c3d := kd0.cell_some c3 hzN
  have c4d := kd0.cell_some c4 hzN
  refine draw (.take 0 (.take 1 (.take 2 (.take 5 (.take 6 (.take 7 (.alt 3 (.alt 4 (.alt 8 (.take 9 (.take 10 .done)) .stop) .stop) .stop))))))) (by kernel_rfl) (fun wz => Kp (Ns w0 (At z)) wa wz) kd0 ?_
  simp -dsimp [go_sem, c2d]
  repeat refine ⟨fun wz hz => by simp [hz.cell_some c1 hzN, hz.cell_some c2 hzN, hz.cell_some c3 hzN, hz.cell_some c4 hzN], ?_⟩
  have kb : Nw wa (wa.alloc (.cells #[str a] 9)).drew := ((Kp.refl _ _).alloc _).drew
  refine ⟨Nw.kp kb _, ?_⟩
  refine call (T1.premove kb (fun i hi => Nat.lt_of_lt_of_le (hNz i hi) kb.size) a wa.heap.size (Nat.le_refl _) ((Rd.fresh (w := wa) rfl rfl).nw ((Kp.refl _ _).drew)) (by omega)) ?_
  rintro u w2 ⟨rfl, T2, hk2⟩
  have hk02 := (Nw.kp kb (Ns w0 (At z))).trans hk2 fun _ _ h => h
  refine ⟨hk02, ?_⟩
  simp -dsimp [go_sem]
  refine call (T2.rremove T.ok (Kp.refl _ _) (fun i hi => Nat.lt_of_lt_of_le (hNz i hi) hk02.size) a (by omega)) ?_
  rintro u w3 ⟨rfl, T3, hk3⟩
  refine ⟨hk02.trans hk3 fun _ _ h => h, ?_⟩
  simp -dsimp [go_sem]
  exact ⟨_, T3.new fun i h => h.elim⟩
theorem does_trunc (w0 w : World) (d x : Nat) (D : Dsk) (s : Sp) (T : Bo w0 w d x D) (hs : SpG w0 s) (hp8 : s.p.length ≤ 8000) (hk : s.kind = 3) :
    Cal Try.prog 18 #[.pointer (some ⟨d, 0, none⟩), .pointer (some ⟨x, 0, none⟩), .agg #[i64 s.kind, i64 s.n, str s.a, str s.b, s.v]] w fun u w' => u = .bool true ∧ ∃ D', Bo w0 w' d x D' := by
  obtain ⟨kd, n, a, b, p, v⟩ := s
  obtain ⟨⟨A, c, hv, hr0, hc⟩, ha, hb, hp, hn1, hn2⟩ := hs
  simp only at hv hr0 hc ha hb hp hn1 hn2 hk hp8
  subst hv
  refine enter Try.mixed Try.func18 rfl (by kernel_rfl) ?_
  have ka : Nw w (w.alloc (.cells #[i64 kd, i64 n, str a, str b, .slice A p.length c] 34)) := (Kp.refl _ _).alloc _
  have hx0 := Blk.new w 34 #[i64 kd, i64 n, str a, str b, .slice A p.length c]
  obtain ⟨z, hz⟩ : ∃ z, z = w.heap.size := ⟨_, rfl⟩
  have hwz : w0.heap.size ≤ z := by rw [hz]; exact T.on.size
  rw [← hz] at hx0
  have T1 : Pr w0 _ (At z) d D x D := (T.new (N' := At z) fun i (e : i = z) => .inr (by omega)).nw ka
  have hNz : ∀ i, At z i → i < (w.alloc (.cells #[i64 kd, i64 n, str a, str b, .slice A p.length c] 34)).heap.size := fun i (e : i = z) => by simp; omega
  subst hk
  simp -dsimp [go_sem]
  rw [← hz]
  generalize w.alloc (.cells #[i64 3, i64 n, str a, str b, .slice A p.length c] 34) = wa at *
  have c1 : wa.cell? ⟨z, 1, none⟩ = some (i64 n) := hx0.cell 1
  have c2 : wa.cell? ⟨z, 2, none⟩ = some (str a) := hx0.cell 2
  have c3 : wa.cell? ⟨z, 3, none⟩ = some (str b) := hx0.cell 3
  have c4 : wa.cell? ⟨z, 4, none⟩ = some (.slice A p.length c) := hx0.cell 4
  have hzN : ¬ Ns w0 (At z) z := fun h => h.2 rfl
  have kd0 : Kp (Ns w0 (At z)) wa wa.drew := (Kp.refl _ _).drew
  have kdN : Nw wa wa.drew := (Kp.refl _ _).drew
  have c1d := kd0.cell_some c1 hzN
  have c2d := kd0.cell_some c2 hzN
  have c3d := kd0.cell_some c3 hzN
  have c4d := kd0.cell_some c4 hzN
  refine draw (.take 0 (.take 1 (.take 2 (.take 3 (.take 4 (.take 6 (.take 7 (.take 8 (.take 9 (.take 10 (.alt 5 (.alt 11 (.take 12 (.take 13 .done)) .stop) .stop))))))))))) (by kernel_rfl) (fun wz => Kp (Ns w0 (At z)) wa wz) kd0 ?_
  simp -dsimp [go_sem, c1d, c2d, c3d]
  repeat refine ⟨fun wz hz => by simp [hz.cell_some c1 hzN, hz.cell_some c2 hzN, hz.cell_some c3 hzN, hz.cell_some c4 hzN], ?_⟩
  refine call (T1.ptrunc kdN (fun i hi => Nat.lt_of_lt_of_le (hNz i hi) kdN.size) a _ (by omega)) ?_
  rintro u w2 ⟨rfl, T2, hk2⟩
  have hk02 := kd0.trans hk2 fun _ _ h => h
  refine ⟨hk02, ?_⟩
  simp -dsimp [go_sem]
  refine call (T2.rtrunc T.ok (Kp.refl _ _) (fun i hi => Nat.lt_of_lt_of_le (hNz i hi) hk02.size) a _ (by omega)) ?_
  rintro u w3 ⟨rfl, T3, hk3⟩
  refine ⟨hk02.trans hk3 fun _ _ h => h, ?_⟩
  simp -dsimp [go_sem]
  exact ⟨_, T3.new fun i h => h.elim⟩
theorem does_rename (w0 w : World) (d x : Nat) (D : Dsk) (s : Sp) (T : Bo w0 w d x D) (hs : SpG w0 s) (hp8 : s.p.length ≤ 8000) (hk : s.kind = 4) :
    Cal Try.prog 18 #[.pointer (some ⟨d, 0, none⟩), .pointer (some ⟨x, 0, none⟩), .agg #[i64 s.kind, i64 s.n, str s.a, str s.b, s.v]] w fun u w' => u = .bool true ∧ ∃ D', Bo w0 w' d x D' := by
  obtain ⟨kd, n, a, b, p, v⟩ := s
  obtain ⟨⟨A, c, hv, hr0, hc⟩, ha, hb, hp, hn1, hn2⟩ := hs
  simp only at hv hr0 hc ha hb hp hn1 hn2 hk hp8
  subst hv
  refine enter Try.mixed Try.func18 rfl (by kernel_rfl) ?_
  have ka : Nw w (w.alloc (.cells #[i64 kd, i64 n, str a, str b, .slice A p.length c] 34)) := (Kp.refl _ _).alloc _
  have hx0 := Blk.new w 34 #[i64 kd, i64 n, str a, str b, .slice A p.length c]
  obtain ⟨z, hz⟩ : ∃ z, z = w.heap.size := ⟨_, rfl⟩
  have hwz : w0.heap.size ≤ z := by rw [hz]; exact T.on.size
  rw [← hz] at hx0
  have T1 : Pr w0 _ (At z) d D x D := (T.new (N' := At z) fun i (e : i = z) => .inr (by omega)).nw ka
  have hNz : ∀ i, At z i → i < (w.alloc (.cells #[i64 kd, i64 n, str a, str b, .slice A p.length c] 34)).heap.size := fun i (e : i = z) => by simp; omega
  subst hk
  simp -dsimp [go_sem]
  rw [← hz]
  generalize w.alloc (.cells #[i64 4, i64 n, str a, str b, .slice A p.length c] 34) = wa at *
  have c1 : wa.cell? ⟨z, 1, none⟩ = some (i64 n) := hx0.cell 1
  have c2 : wa.cell? ⟨z, 2, none⟩ = some (str a) := hx0.cell 2
  have c3 : wa.cell? ⟨z, 3, none⟩ = some (str b) := hx0.cell 3
  have c4 : wa.cell? ⟨z, 4, none⟩ = some (.slice A p.length c) := hx0.cell 4
  have hzN : ¬ Ns w0 (At z) z := fun h => h.2 rfl
  have kd0 : Kp (Ns w0 (At z)) wa wa.drew := (Kp.refl _ _).drew
  have kdN : Nw wa wa.drew := (Kp.refl _ _).drew
  have c1d := kd0.cell_some c1 hzN
  have c2d := kd0.cell_some c2 hzN
  have c3d := kd0.cell_some c3 hzN
  have c4d := kd0.cell_some c4 hzN
  refine draw (.take 0 (.take 1 (.take 2 (.take 3 (.take 4 (.take 6 (.take 7 (.take 8 (.take 9 (.take 10 (.alt 5 (.alt 11 (.take 12 (.take 13 .done)) .stop) .stop))))))))))) (by kernel_rfl) (fun wz => Kp (Ns w0 (At z)) wa wz) kd0 ?_
  simp -dsimp [go_sem, c1d, c2d, c3d]
  repeat refine ⟨fun wz hz => by simp [hz.cell_some c1 hzN, hz.cell_some c2 hzN, hz.cell_some c3 hzN, hz.cell_some c4 hzN], ?_⟩
  refine call (T1.prename kdN (fun i hi => Nat.lt_of_lt_of_le (hNz i hi) kdN.size) a _ (by omega) (by omega)) ?_
  rintro u w2 ⟨rfl, T2, hk2⟩
  have hk02 := kd0.trans hk2 fun _ _ h => h
  refine ⟨hk02, ?_⟩
  simp -dsimp [go_sem]
  refine call (T2.rrename T.ok (Kp.refl _ _) (fun i hi => Nat.lt_of_lt_of_le (hNz i hi) hk02.size) a _ (by omega) (by omega)) ?_
  rintro u w3 ⟨rfl, T3, hk3⟩
  refine ⟨hk02.trans hk3 fun _ _ h => h, ?_⟩
  simp -dsimp [go_sem]
  exact ⟨_, T3.new fun i h => h.elim⟩
theorem does_fuse (w0 w : World) (d x : Nat) (D : Dsk) (s : Sp) (T : Bo w0 w d x D) (hs : SpG w0 s) (hp8 : s.p.length ≤ 8000) (hk : s.kind = 6) :
    Cal Try.prog 18 #[.pointer (some ⟨d, 0, none⟩), .pointer (some ⟨x, 0, none⟩), .agg #[i64 s.kind, i64 s.n, str s.a, str s.b, s.v]] w fun u w' => u = .bool true ∧ ∃ D', Bo w0 w' d x D' := by
  obtain ⟨kd, n, a, b, p, v⟩ := s
  obtain ⟨⟨A, c, hv, hr0, hc⟩, ha, hb, hp, hn1, hn2⟩ := hs
  simp only at hv hr0 hc ha hb hp hn1 hn2 hk hp8
  subst hv
  refine enter Try.mixed Try.func18 rfl (by kernel_rfl) ?_
  have ka : Nw w (w.alloc (.cells #[i64 kd, i64 n, str a, str b, .slice A p.length c] 34)) := (Kp.refl _ _).alloc _
  have hx0 := Blk.new w 34 #[i64 kd, i64 n, str a, str b, .slice A p.length c]
  obtain ⟨z, hz⟩ : ∃ z, z = w.heap.size := ⟨_, rfl⟩
  have hwz : w0.heap.size ≤ z := by rw [hz]; exact T.on.size
  rw [← hz] at hx0
  have T1 : Pr w0 _ (At z) d D x D := (T.new (N' := At z) fun i (e : i = z) => .inr (by omega)).nw ka
  have hNz : ∀ i, At z i → i < (w.alloc (.cells #[i64 kd, i64 n, str a, str b, .slice A p.length c] 34)).heap.size := fun i (e : i = z) => by simp; omega
  subst hk
  simp -dsimp [go_sem]
  rw [← hz]
  generalize w.alloc (.cells #[i64 6, i64 n, str a, str b, .slice A p.length c] 34) = wa at *
  have c1 : wa.cell? ⟨z, 1, none⟩ = some (i64 n) := hx0.cell 1
  have c2 : wa.cell? ⟨z, 2, none⟩ = some (str a) := hx0.cell 2
  have c3 : wa.cell? ⟨z, 3, none⟩ = some (str b) := hx0.cell 3
  have c4 : wa.cell? ⟨z, 4, none⟩ = some (.slice A p.length c) := hx0.cell 4
  have hzN : ¬ Ns w0 (At z) z := fun h => h.2 rfl
  have kd0 : Kp (Ns w0 (At z)) wa wa.drew := (Kp.refl _ _).drew
  have kdN : Nw wa wa.drew := (Kp.refl _ _).drew
  have c1d := kd0.cell_some c1 hzN
  have c2d := kd0.cell_some c2 hzN
  have c3d := kd0.cell_some c3 hzN
  have c4d := kd0.cell_some c4 hzN
  refine call (T1.pfuse (Kp.refl _ _) hNz n hn2) ?_
  rintro u w2 ⟨rfl, T2, hk2⟩
  have c12 := hk2.cell_some c1 hzN
  simp -dsimp [go_sem, c12]
  refine call (T2.rfuse (Kp.refl _ _) (fun i hi => Nat.lt_of_lt_of_le (hNz i hi) hk2.size) n) ?_
  rintro u w3 ⟨rfl, T3, hk3⟩
  simp -dsimp [go_sem]
  exact ⟨_, T3.new fun i h => h.elim⟩
theorem does_crash (w0 w : World) (d x : Nat) (D : Dsk) (s : Sp) (T : Bo w0 w d x D) (hs : SpG w0 s) (hp8 : s.p.length ≤ 8000) (hk : s.kind = 7) :
    Cal Try.prog 18 #[.pointer (some ⟨d, 0, none⟩), .pointer (some ⟨x, 0, none⟩), .agg #[i64 s.kind, i64 s.n, str s.a, str s.b, s.v]] w fun u w' => u = .bool true ∧ ∃ D', Bo w0 w' d x D' := by
  obtain ⟨kd, n, a, b, p, v⟩ := s
  obtain ⟨⟨A, c, hv, hr0, hc⟩, ha, hb, hp, hn1, hn2⟩ := hs
  simp only at hv hr0 hc ha hb hp hn1 hn2 hk hp8
  subst hv
  refine enter Try.mixed Try.func18 rfl (by kernel_rfl) ?_
  have ka : Nw w (w.alloc (.cells #[i64 kd, i64 n, str a, str b, .slice A p.length c] 34)) := (Kp.refl _ _).alloc _
  have hx0 := Blk.new w 34 #[i64 kd, i64 n, str a, str b, .slice A p.length c]
  obtain ⟨z, hz⟩ : ∃ z, z = w.heap.size := ⟨_, rfl⟩
  have hwz : w0.heap.size ≤ z := by rw [hz]; exact T.on.size
  rw [← hz] at hx0
  have T1 : Pr w0 _ (At z) d D x D := (T.new (N' := At z) fun i (e : i = z) => .inr (by omega)).nw ka
  have hNz : ∀ i, At z i → i < (w.alloc (.cells #[i64 kd, i64 n, str a, str b, .slice A p.length c] 34)).heap.size := fun i (e : i = z) => by simp; omega
  subst hk
  simp -dsimp [go_sem]
  rw [← hz]
  generalize w.alloc (.cells #[i64 7, i64 n, str a, str b, .slice A p.length c] 34) = wa at *
  have c1 : wa.cell? ⟨z, 1, none⟩ = some (i64 n) := hx0.cell 1
  have c2 : wa.cell? ⟨z, 2, none⟩ = some (str a) := hx0.cell 2
  have c3 : wa.cell? ⟨z, 3, none⟩ = some (str b) := hx0.cell 3
  have c4 : wa.cell? ⟨z, 4, none⟩ = some (.slice A p.length c) := hx0.cell 4
  have hzN : ¬ Ns w0 (At z) z := fun h => h.2 rfl
  have kd0 : Kp (Ns w0 (At z)) wa wa.drew := (Kp.refl _ _).drew
  have kdN : Nw wa wa.drew := (Kp.refl _ _).drew
  have c1d := kd0.cell_some c1 hzN
  have c2d := kd0.cell_some c2 hzN
  have c3d := kd0.cell_some c3 hzN
  have c4d := kd0.cell_some c4 hzN
  refine call (T1.pcrash (Kp.refl _ _) hNz n) ?_
  rintro u w2 ⟨rfl, T2, hk2⟩
  have c12 := hk2.cell_some c1 hzN
  simp -dsimp [go_sem, c12]
  refine call (T2.rcrash T.ok (Kp.refl _ _) (fun i hi => Nat.lt_of_lt_of_le (hNz i hi) hk2.size) n) ?_
  rintro u w3 ⟨rfl, T3, hk3⟩
  simp -dsimp [go_sem]
  exact ⟨_, T3.new fun i h => h.elim⟩
theorem does_read (w0 w : World) (d x : Nat) (D : Dsk) (s : Sp) (T : Bo w0 w d x D) (hs : SpG w0 s) (hp8 : s.p.length ≤ 8000) (hk : s.kind ≠ 1 ∧ s.kind ≠ 2 ∧ s.kind ≠ 3 ∧ s.kind ≠ 4 ∧ s.kind ≠ 5 ∧ s.kind ≠ 6 ∧ s.kind ≠ 7) :
    Cal Try.prog 18 #[.pointer (some ⟨d, 0, none⟩), .pointer (some ⟨x, 0, none⟩), .agg #[i64 s.kind, i64 s.n, str s.a, str s.b, s.v]] w fun u w' => u = .bool true ∧ ∃ D', Bo w0 w' d x D' := by
  obtain ⟨kd, n, a, b, p, v⟩ := s
  obtain ⟨⟨A, c, hv, hr0, hc⟩, ha, hb, hp, hn1, hn2⟩ := hs
  simp only at hv hr0 hc ha hb hp hn1 hn2 hk hp8
  subst hv
  refine enter Try.mixed Try.func18 rfl (by kernel_rfl) ?_
  have ka : Nw w (w.alloc (.cells #[i64 kd, i64 n, str a, str b, .slice A p.length c] 34)) := (Kp.refl _ _).alloc _
  have hx0 := Blk.new w 34 #[i64 kd, i64 n, str a, str b, .slice A p.length c]
  obtain ⟨z, hz⟩ : ∃ z, z = w.heap.size := ⟨_, rfl⟩
  have hwz : w0.heap.size ≤ z := by rw [hz]; exact T.on.size
  rw [← hz] at hx0
  have T1 : Pr w0 _ (At z) d D x D := (T.new (N' := At z) fun i (e : i = z) => .inr (by omega)).nw ka
  have hNz : ∀ i, At z i → i < (w.alloc (.cells #[i64 kd, i64 n, str a, str b, .slice A p.length c] 34)).heap.size := fun i (e : i = z) => by simp; omega
  obtain ⟨q1, q2, q3, q4, q5, q6, q7⟩ := hk
  have r1 : (kd == 1) = false := by simpa using q1
  have r2 : (kd == 2) = false := by simpa using q2
  have r3 : (kd == 3) = false := by simpa using q3
  have r4 : (kd == 4) = false := by simpa using q4
  have r5 : (kd == 5) = false := by simpa using q5
  have r6 : (kd == 6) = false := by simpa using q6
  have r7 : (kd == 7) = false := by simpa using q7
  simp -dsimp [go_sem, r1, r2, r3, r4, r5, r6, r7]
  rw [← hz]
  have c2' := hx0.cell 2
  refine call (T1.pread (Kp.refl _ _) a) ?_
  rintro u w2 ⟨hk2, u2, rfl, hB2⟩
  have c22 := (hx0.nw hk2).cell 2
  simp -dsimp [go_sem, c22]
  refine call (T1.rread T.ok hk2 a) ?_
  rintro u w3 ⟨hk3, u3, rfl, hB3⟩
  obtain ⟨A2, e2, rfl, ho2, hA2⟩ := id (hB2.nw hk3)
  obtain ⟨A3, e3, rfl, ho3, hA3⟩ := id hB3
  have hrl : (dRead D a).1.length ≤ 1073741824 := by
    have h1 := T.ok.used
    have h2 := T.ok.room
    unfold dRead
    cases hl : tLook D.fs a with
    | none => simp
    | some f =>
      have h3 := sumv_ge (fun f : Fil => f.b.length) hl
      have h5 : D.used = sumv (fun f : Fil => f.b.length) D.fs := rfl
      simp only
      omega
  generalize (dRead D a).1 = l at *
  generalize (dRead D a).2 = e at *
  simp -dsimp [go_sem]
  refine call (same_spec A2 A3 e2 e3 l l w3 ho2.rd ho3.rd (by omega)) ?_
  rintro u w4 ⟨rfl, hk4⟩
  simp -dsimp [go_sem]
  refine call (spoil_spec l w4 A2 e2 (ho2.nw hk4) (by omega)) ?_
  rintro u w5 ⟨rfl, hk5⟩
  simp -dsimp [go_sem]
  have T4 := (((T1.new (N' := blk A2) fun i hi => by
    obtain ⟨aa, ha, rfl⟩ := blk_of hi
    exact .inr (hA2 aa ha)).nw hk2).nw hk3).nw hk4
  have T5 := T4.kp hk5 fun i hi => by
    obtain ⟨aa, ha, rfl⟩ := blk_of hi
    exact ⟨by have := hA2 aa ha; have := T1.on.size; omega, hi⟩
  exact ⟨_, T5.new fun i h => h.elim⟩
theorem does_append (w0 w : World) (d x : Nat) (D : Dsk) (s : Sp) (T : Bo w0 w d x D) (hs : SpG w0 s) (hp8 : s.p.length ≤ 8000) (hk : s.kind = 1) :
    Cal Try.prog 18 #[.pointer (some ⟨d, 0, none⟩), .pointer (some ⟨x, 0, none⟩), .agg #[i64 s.kind, i64 s.n, str s.a, str s.b, s.v]] w fun u w' => u = .bool true ∧ ∃ D', Bo w0 w' d x D' := by
  obtain ⟨kd, n, a, b, p, v⟩ := s
  obtain ⟨⟨A, c, hv, hr0, hc⟩, ha, hb, hp, hn1, hn2⟩ := hs
  simp only at hv hr0 hc ha hb hp hn1 hn2 hk hp8
  subst hv
  refine enter Try.mixed Try.func18 rfl (by kernel_rfl) ?_
  have ka : Nw w (w.alloc (.cells #[i64 kd, i64 n, str a, str b, .slice A p.length c] 34)) := (Kp.refl _ _).alloc _
  have hx0 := Blk.new w 34 #[i64 kd, i64 n, str a, str b, .slice A p.length c]
  obtain ⟨z, hz⟩ : ∃ z, z = w.heap.size := ⟨_, rfl⟩
  have hwz : w0.heap.size ≤ z := by rw [hz]; exact T.on.size
  rw [← hz] at hx0
  have T1 : Pr w0 _ (At z) d D x D := (T.new (N' := At z) fun i (e : i = z) => .inr (by omega)).nw ka
  have hNz : ∀ i, At z i → i < (w.alloc (.cells #[i64 kd, i64 n, str a, str b, .slice A p.length c] 34)).heap.size := fun i (e : i = z) => by simp; omega
  subst hk
  simp -dsimp [go_sem]
  rw [← hz]
  generalize w.alloc (.cells #[i64 1, i64 n, str a, str b, .slice A p.length c] 34) = wa at *
  have c1 : wa.cell? ⟨z, 1, none⟩ = some (i64 n) := hx0.cell 1
  have c2 : wa.cell? ⟨z, 2, none⟩ = some (str a) := hx0.cell 2
  have c3 : wa.cell? ⟨z, 3, none⟩ = some (str b) := hx0.cell 3
  have c4 : wa.cell? ⟨z, 4, none⟩ = some (.slice A p.length c) := hx0.cell 4
  have hzN : ¬ Ns w0 (At z) z := fun h => h.2 rfl
  have kd0 : Kp (Ns w0 (At z)) wa wa.drew := (Kp.refl _ _).drew
  have kdN : Nw wa wa.drew := (Kp.refl _ _).drew
  have c1d := kd0.cell_some c1 hzN
  have c2d := kd0.cell_some c2 hzN
  have c3d := kd0.cell_some c3 hzN
  have c4d := kd0.cell_some c4 hzN
  have hrA : Rd wa A (p.map u8) := hr0.nw (T.on.nw ka)
  refine call (roomy_spec p wa A c hrA (by omega)) ?_
  rintro u w2 ⟨hB2, hk2⟩
  obtain ⟨A2, e2, rfl, ho2, hA2⟩ := id hB2
  have hl2 : (p ++ [171]).length = p.length + 1 := by simp
  rw [hl2] at ho2 ⊢
  have hA2' : ∀ k, blk A2 k → wa.heap.size ≤ k := fun k hk => by
    obtain ⟨aa, ha, rfl⟩ := blk_of hk
    exact hA2 aa ha
  have hA2s : ∀ k, blk A2 k → k < w2.heap.size := fun k hk => by
    obtain ⟨aa, ha, rfl⟩ := blk_of hk
    exact ho2.lt aa ha
  have T2 : Pr w0 w2 (fun k => k = z ∨ blk A2 k) d D x D := (T1.new (N' := fun k => k = z ∨ blk A2 k) fun i hi => hi.elim .inl fun h => .inr (hA2' i h)).nw hk2
  have hN2 : ∀ i, (i = z ∨ blk A2 i) → i < w2.heap.size := fun i hi => hi.elim (fun e => Nat.lt_of_lt_of_le (hNz i e) hk2.size) (hA2s i)
  have hz2 : ¬ Ns w0 (fun k => k = z ∨ blk A2 k) z := fun h => h.2 (.inl rfl)
  have kd2 : Nw w2 w2.drew := (Kp.refl _ _).drew
  have d2 := hk2.cell_some c2 fun h => h
  have d4 := hk2.cell_some c4 fun h => h
  have d2d := kd2.cell_some d2 fun h => h
  have d4d := kd2.cell_some d4 fun h => h
  have hple : p.length ≤ e2 := by have := ho2.2.1; omega
  have hrp2 : Rd w2 A2 (p.map u8) := by
    have := ho2.rd.take p.length
    rwa [List.map_append, List.take_left' (by simp)] at this
  simp -dsimp [go_sem]
  refine draw (.take 0 (.take 1 (.take 2 (.take 3 (.take 4 (.take 5 (.take 6 (.take 7 (.take 10 (.take 11 (.take 12 (.take 13 (.take 14 (.alt 8 (.alt 9 (.alt 15 (.take 16 (.take 17 (.take 18 (.take 19 (.take 20 (.alt 21 (.take 22 (.take 23 .done)) .stop)))))) .stop) .stop) .stop)))))))))))))) (by kernel_rfl) (fun wz => Kp (Ns w0 (fun k => k = z ∨ blk A2 k)) w2 wz) (Nw.kp kd2 _) ?_
  simp -dsimp [go_sem, d2d, d4d, hple]
  repeat refine ⟨fun wz hz => by simp [hz.cell_some d2 hz2, hz.cell_some d4 hz2], ?_⟩
  have kb : Nw w2 (w2.alloc (.cells #[.slice A2 p.length e2] 32)).drew := ((Kp.refl _ _).alloc _).drew
  refine ⟨Nw.kp kb _, ?_⟩
  have hbrs : Brs (w2.alloc (.cells #[.slice A2 p.length e2] 32)).drew (some ⟨w2.heap.size, 0, none⟩) [p] (fun _ => False) :=
    Brs.one (p := p) (d := e2) ((Blk.fresh rfl).nw ((Kp.refl _ _).drew)) (fun h => h) (hrp2.nw kb) (fun _ _ h => h) hple
  refine call (T2.pappend kb (fun i hi => Nat.lt_of_lt_of_le (hN2 i hi) kb.size) a p _ 1 hbrs (by omega) (by omega) (by omega)) ?_
  rintro u w3 ⟨rfl, T3, hk3⟩
  have hk23 := (Nw.kp kb (Ns w0 (fun k => k = z ∨ blk A2 k))).trans hk3 fun _ _ h => h
  refine ⟨hk23, ?_⟩
  simp -dsimp [go_sem]
  refine call (T3.rappend T.ok (Kp.refl _ _) (fun i hi => Nat.lt_of_lt_of_le (hN2 i hi) hk23.size) a p A c (hr0.nw T3.on) (fun F hF _ => Pr.off hr0 hF) (by omega) (by omega)) ?_
  rintro u w4 ⟨rfl, T4, hk4⟩
  have hk24 := hk23.trans hk4 fun _ _ h => h
  have f4 := hk24.cell_some d4 hz2
  refine ⟨hk24, ?_⟩
  have hA2N : Off A2 (Ns w0 (fun k => k = z ∨ blk A2 k)) := Off.of_blk fun k hk h => h.2 (.inr hk)
  have ho4 := ho2.kp hk24 hA2N
  simp -dsimp [go_sem, f4]
  refine ⟨fun wz hz => by simp [hz.cell_some d4 hz2], ?_⟩
  refine call (stands_spec p w4 A2 A e2 c ho4.rd (by have := ho2.2.1; omega) (hr0.nw T4.on) (by omega)) ?_
  rintro u w5 ⟨rfl, hk5⟩
  refine ⟨hk24.nw hk5, ?_⟩
  simp -dsimp [go_sem]
  rw [← hl2] at ho4 ⊢
  refine call (spoil_spec (p ++ [171]) w5 A2 e2 (ho4.nw hk5) (by rw [hl2]; omega)) ?_
  rintro u w6 ⟨rfl, hk6⟩
  simp -dsimp [go_sem]
  have T6 := (T4.nw hk5).kp hk6 fun i hi => ⟨by have := hA2' i hi; have := T1.on.size; omega, .inr hi⟩
  exact ⟨_, T6.new fun i h => h.elim⟩
end Go.Proofs.Ythonmjgagblogaa
