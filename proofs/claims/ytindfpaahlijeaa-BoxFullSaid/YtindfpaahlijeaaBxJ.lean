/-
  BoxFull walked. By the session itself.
-/
import Derived.Test.YtindfpaahlijeaaBxI
import Derived.Laws.MakeOwn
namespace Go.Proofs.Ytindfpaahlijeaa
set_option linter.unusedSimpArgs false
set_option linter.unusedVariables false
set_option maxRecDepth 100000
set_option maxHeartbeats 2000000
open Go.Vc Go.RowKit

theorem make_u8 {P : Program} {t e : TypeId} (ht : P.underlying t = some (.slice e)) (he : (P.info? e).map (fun i => (i.zero, i.size, i.bytes)) = some (some (.int .u8 0), 1, 1)) (n : Nat) (hn : n ≤ 16777216) (w : World) :
    (Instr.makeSlice t (i64 n) (i64 n)).run P w = .ok (.slice (some ⟨w.heap.size, 0, none⟩) n n) (w.alloc (.cells ((List.replicate n (0 : UInt8)).map u8).toArray e)) := by
  obtain ⟨i, hi, hz0, hz1, hz2⟩ : ∃ i, P.info? e = some i ∧ i.zero = some (.int .u8 0) ∧ i.size = 1 ∧ i.bytes = 1 := by
    cases hp : P.info? e with
    | none => rw [hp] at he; cases he
    | some i => rw [hp] at he; simp at he; exact ⟨i, rfl, he.1, he.2.1, he.2.2⟩
  have h := run_makeSlice (P := P) (w := w) t e i (.int .u8 0) ht hi hz0 .i64 .i64 n n (by omega) (by omega) (by rw [hz1]; omega) (by rw [hz2]; omega) (by omega)
  rw [h, Int.toNat_natCast, hz1, Nat.mul_one]
  have : madeCells (Value.int .u8 0).cells n = ((List.replicate n (0 : UInt8)).map u8).toArray := by
    apply Array.ext'
    rw [show (Value.int .u8 0).cells = #[.int .u8 0] from rfl, toList_madeCells_one]
    simp
  rw [this]
def fullB (i : Nat) : Bx := ⟨⟨#[97]⟩, 1, (min i 24 : Nat) + 1, (List.range (min i 24)).map fun (j : Nat) => ⟨(j : Int) + 1, 0, (j : Int), []⟩⟩
theorem fullB_len (i : Nat) : (fullB i).L.length = min i 24 := by simp [fullB]
theorem fullB_step (i : Nat) (hi : i < 30) : addB (fullB i) 0 (i : Int) [] = if i < 24 then (fullB (i + 1), (i : Int) + 1, 0) else (fullB i, 0, 6) := by
  have h1 : okF 0 0 31 = true := rfl
  have h2 : okF (i : Int) 0 1073741824 = true := by simp [okF]; omega
  unfold addB
  rw [if_neg (by simp [h1, h2]), if_neg (by simp), fullB_len]
  by_cases h : i < 24
  · rw [if_neg (by omega), if_neg (by simp [fullB]; omega), if_pos h]
    have e1 : min i 24 = i := by omega
    have e2 : min (i + 1) 24 = i + 1 := by omega
    simp only [fullB, e1, e2, List.range_succ, List.map_append, List.map_cons, List.map_nil]
    rfl
  · rw [if_pos (by omega), if_neg h]
theorem fullB_top (i : Nat) (h : ¬ i < 24) : fullB (i + 1) = fullB i := by
  have e1 : min i 24 = 24 := by omega
  have e2 : min (i + 1) 24 = 24 := by omega
  simp only [fullB, e1, e2]
theorem add_rep (bv : Value) (b : Bx) (S : Nat → Prop) (sz : Nat) (A : Option Addr) (w : World) (h : RB w bv b S) (hl : b.L.length ≤ 1000000) (hbl : ∀ m ∈ b.L, m.body.length ≤ 1000000000) (hn : -9223372036854775808 ≤ b.next) (hr : Rd w A ((List.replicate sz (0 : UInt8)).map u8)) :
    Cal Try.prog 12 #[bv, i64 0, i64 0, .slice A sz sz] w fun v' w' => AddR v' w' (addB b 0 0 (List.replicate sz 0)) w.heap.size ∧ Nw w w' := by
  have := add_spec bv b S 0 0 (List.replicate sz 0) A sz w h hl hbl hr hn
  rw [List.length_replicate] at this
  exact this
theorem full_law (n over : Int) (w : World) : Cal Try.prog 4 #[i64 n, i64 over] w fun v w' => v = .bool true ∧ Nw w w' := by
  refine enter Try.mixed Try.func4 rfl (by kernel_rfl) ?_
  by_cases h1 : n < 0
  · simp -dsimp [go_sem, h1]
    exact Kp.refl _ _
  · by_cases h2 : 30 < n
    · simp -dsimp [go_sem, h1, h2]
      exact Kp.refl _ _
    · by_cases h3 : over < 1
      · simp -dsimp [go_sem, h1, h2, h3]
        exact Kp.refl _ _
      · by_cases h4 : 60 < over
        · simp -dsimp [go_sem, h1, h2, h3, h4]
          exact Kp.refl _ _
        · obtain ⟨n, rfl⟩ : ∃ k : Nat, n = k := ⟨n.toNat, by omega⟩
          obtain ⟨over, rfl⟩ : ∃ k : Nat, over = k := ⟨over.toNat, by omega⟩
          simp -dsimp [go_sem, h1, h2, h3, h4]
          refine call (new_spec ⟨#[97]⟩ 1 w) ?_
          rintro v w1 ⟨rfl, hk1⟩
          have ka : Nw w1 (w1.alloc (.cells #[.string ⟨#[97]⟩, i64 1, i64 1, .slice none 0 0] 26)) := (Kp.refl _ _).alloc _
          have hy : Blk (w1.alloc (.cells #[.string ⟨#[97]⟩, i64 1, i64 1, .slice none 0 0] 26)) w1.heap.size 26 #[.string ⟨#[97]⟩, i64 1, i64 1, .slice none 0 0] := Blk.new _ _ _
          obtain ⟨y, hyw⟩ : ∃ y, y = w1.heap.size := ⟨_, rfl⟩
          have n3 := hk1.nw ka
          have hyf : w.heap.size ≤ y := by rw [hyw]; exact hk1.size
          simp -dsimp [go_sem]
          rw [← hyw] at hy ⊢
          generalize w1.alloc (.cells #[.string ⟨#[97]⟩, i64 1, i64 1, .slice none 0 0] 26) = w3 at *
          refine loop [4, 6, 7, 8, 9, 28, 29, 30, 31, 32, 33, 34, 35, 36, 37, 38, 39, 40, 41, 42, 43, 44, 45, 46, 47, 48, 49, 50, 51, 52, 53, 54, 55, 56, 57, 58, 59, 60, 61, 62, 63] (by kernel_rfl)
            (fun f w' => Box1 (fun a w' => ∃ i : Nat, ∃ A c, a = i64 i ∧ i ≤ n ∧ Blk w' y 26 #[.string ⟨#[97]⟩, i64 1, i64 (fullB i).next, .slice A (fullB i).L.length c] ∧ OB w' (.agg #[.string ⟨#[97]⟩, i64 1, i64 (fullB i).next, .slice A (fullB i).L.length c]) (fullB i) (y + 1) ∧ Nw w w') (f 6) w') (fun f _ => n - (intOf (f 6)).toNat)
            ⟨0, none, 0, rfl, by omega, hy, ob_new ⟨#[97]⟩ 1 w3 _, n3⟩ ?_
          rintro f w4 ⟨i, A, c, f6, hi, hb4, hO4, n4⟩
          have hil : i ≤ 30 := by omega
          have hL : (fullB i).L.length ≤ 24 := by rw [fullB_len]; omega
          have hbod : ∀ m ∈ (fullB i).L, m.body.length ≤ 1000000000 := fun m hm => by
            obtain ⟨j, hj, rfl⟩ := List.mem_map.1 hm
            simp
          have hnx : -9223372036854775808 ≤ (fullB i).next := by simp [fullB]; omega
          have hyl := hb4.lt
          have c0 := hb4.cell 0
          have c1 := hb4.cell 1
          have c2 := hb4.cell 2
          have c3 := hb4.cell 3
          by_cases hlt : i < n
          · have hlt' : (i : Int) < (n : Int) := by omega
            have hi1 : IntKind.i64.wrap ((i : Int) + 1) = ((i + 1 : Nat) : Int) := by rw [w64 (by omega) (by omega)]; omega
            have est := fullB_step i (by omega)
            simp -dsimp [go_sem, f6, hlt, hlt', c0, c1, c2, c3]
            refine call (add_spec _ (fullB i) _ 0 (i : Int) [] none 0 w4 hO4.rb (by omega) hbod (Rd.nil _ _) hnx) ?_
            rintro v w5 ⟨⟨bv, rfl, hO5⟩, hk5⟩
            by_cases h24 : i < 24
            · rw [if_pos h24] at est
              rw [est] at hO5
              replace hO5 : OB w5 bv (fullB (i + 1)) w4.heap.size := hO5
              have h24' : (i : Int) < 24 := by omega
              obtain ⟨A5, c5, rfl⟩ := hO5.open_
              have hb5 := hb4.nw hk5
              have n5 := n4.nw hk5
              have hnm : (fullB (i + 1)).name = ⟨#[97]⟩ := rfl
              have hvl : (fullB (i + 1)).val = 1 := rfl
              rw [hnm, hvl] at hO5 ⊢
              generalize hB : (fullB (i + 1)) = bx at *
              obtain ⟨ln, hln⟩ : ∃ ln, ln = bx.L.length := ⟨_, rfl⟩
              rw [← hln] at hO5 ⊢
              have kb : Nw w5 (w5.alloc (.cells #[.string ⟨#[97]⟩, i64 1, i64 bx.next, .slice A5 ln c5] 26)) := (Kp.refl _ _).alloc _
              have hz6 : Blk (w5.alloc (.cells #[.string ⟨#[97]⟩, i64 1, i64 bx.next, .slice A5 ln c5] 26)) w5.heap.size 26 #[.string ⟨#[97]⟩, i64 1, i64 bx.next, .slice A5 ln c5] := Blk.new _ _ _
              have hb6 := hb5.nw kb
              have hyl5 : y < w5.heap.size := hb5.lt
              obtain ⟨z, hzw⟩ : ∃ z, z = w5.heap.size := ⟨_, rfl⟩
              have d0 := hb6.cell 0
              have d1 := hb6.cell 1
              have d2 := hb6.cell 2
              have d3 := hb6.cell 3
              have f0 := hb6.frozen 0
              have f1 := hb6.frozen 1
              have f2 := hb6.frozen 2
              have f3 := hb6.frozen 3
              have z0 := hz6.cell 0
              have z1 := hz6.cell 1
              have z2 := hz6.cell 2
              have z3 := hz6.cell 3
              rw [← hzw] at z0 z1 z2 z3
              have hyz : y ≠ z := by omega
              have hzy : z ≠ y := by omega
              simp -dsimp [go_sem, est, f6, h24, h24', hi1, d0, d1, d2, d3, f0, f1, f2, f3]
              have hb7 := blk_set4 hb6 (.string ⟨#[97]⟩) (i64 1) (i64 bx.next) (.slice A5 ln c5)
              have ks := kp_set4 (w5.alloc (.cells #[.string ⟨#[97]⟩, i64 1, i64 bx.next, .slice A5 ln c5] 26)) y (.string ⟨#[97]⟩) (i64 1) (i64 bx.next) (.slice A5 ln c5)
              refine ⟨⟨i + 1, A5, c5, rfl, by omega, ?_, ?_, (n5.nw kb).at_ ks fun k (e : k = y) => by omega⟩, by simp [intOf]; omega⟩
              · rw [hB, ← hln]; exact hb7
              · rw [hB, ← hln]
                exact ((hO5.nw kb).kp ks fun k hk _ (e : k = y) => by omega).mono (by omega)
            · rw [if_neg h24] at est
              rw [est, ← fullB_top i h24] at hO5
              replace hO5 : OB w5 bv (fullB (i + 1)) w4.heap.size := hO5
              have h24' : ¬ (i : Int) < 24 := by omega
              obtain ⟨A5, c5, rfl⟩ := hO5.open_
              have hb5 := hb4.nw hk5
              have n5 := n4.nw hk5
              have hnm : (fullB (i + 1)).name = ⟨#[97]⟩ := rfl
              have hvl : (fullB (i + 1)).val = 1 := rfl
              rw [hnm, hvl] at hO5 ⊢
              generalize hB : (fullB (i + 1)) = bx at *
              obtain ⟨ln, hln⟩ : ∃ ln, ln = bx.L.length := ⟨_, rfl⟩
              rw [← hln] at hO5 ⊢
              have kb : Nw w5 (w5.alloc (.cells #[.string ⟨#[97]⟩, i64 1, i64 bx.next, .slice A5 ln c5] 26)) := (Kp.refl _ _).alloc _
              have hz6 : Blk (w5.alloc (.cells #[.string ⟨#[97]⟩, i64 1, i64 bx.next, .slice A5 ln c5] 26)) w5.heap.size 26 #[.string ⟨#[97]⟩, i64 1, i64 bx.next, .slice A5 ln c5] := Blk.new _ _ _
              have hb6 := hb5.nw kb
              have hyl5 : y < w5.heap.size := hb5.lt
              obtain ⟨z, hzw⟩ : ∃ z, z = w5.heap.size := ⟨_, rfl⟩
              have d0 := hb6.cell 0
              have d1 := hb6.cell 1
              have d2 := hb6.cell 2
              have d3 := hb6.cell 3
              have f0 := hb6.frozen 0
              have f1 := hb6.frozen 1
              have f2 := hb6.frozen 2
              have f3 := hb6.frozen 3
              have z0 := hz6.cell 0
              have z1 := hz6.cell 1
              have z2 := hz6.cell 2
              have z3 := hz6.cell 3
              rw [← hzw] at z0 z1 z2 z3
              have hyz : y ≠ z := by omega
              have hzy : z ≠ y := by omega
              simp -dsimp [go_sem, est, f6, h24, h24', hi1, d0, d1, d2, d3, f0, f1, f2, f3]
              have hb7 := blk_set4 hb6 (.string ⟨#[97]⟩) (i64 1) (i64 bx.next) (.slice A5 ln c5)
              have ks := kp_set4 (w5.alloc (.cells #[.string ⟨#[97]⟩, i64 1, i64 bx.next, .slice A5 ln c5] 26)) y (.string ⟨#[97]⟩) (i64 1) (i64 bx.next) (.slice A5 ln c5)
              refine ⟨⟨i + 1, A5, c5, rfl, by omega, ?_, ?_, (n5.nw kb).at_ ks fun k (e : k = y) => by omega⟩, by simp [intOf]; omega⟩
              · rw [hB, ← hln]; exact hb7
              · rw [hB, ← hln]
                exact ((hO5.nw kb).kp ks fun k hk _ (e : k = y) => by omega).mono (by omega)
          · obtain rfl : i = n := by omega
            obtain ⟨ln, hln⟩ : ∃ ln, ln = (fullB i).L.length := ⟨_, rfl⟩
            have hmin : (min (i : Int) 24) = (ln : Int) := by rw [hln, fullB_len]; omega
            rw [← hln] at hb4 hO4 c0 c1 c2 c3
            have hov : IntKind.i64.wrap (1200 + (over : Int)) = ((1200 + over : Nat) : Int) := by rw [w64 (by omega) (by omega)]; omega
            obtain ⟨sz, hsz⟩ : ∃ sz, sz = 1200 + over := ⟨_, rfl⟩
            rw [← hsz] at hov
            have e5 : addB (fullB i) 0 0 (List.replicate sz 0) = (fullB i, 0, 5) := by
              unfold addB
              rw [if_neg (by decide), if_pos (by rw [List.length_replicate]; omega)]
            have mk := fun W => make_u8 (P := Try.prog) (t := 29) (e := 5) (by kernel_rfl) (by kernel_rfl) sz (by omega) W
            have hnm : (fullB i).name = ⟨#[97]⟩ := rfl
            have hvl : (fullB i).val = 1 := rfl
            simp -dsimp [go_sem, f6]
            have kd : Nw w4 w4.drew := (Kp.refl _ _).drew
            have d0 := kd.cell_some (c0.trans rfl) fun h => h
            have d1 := kd.cell_some (c1.trans rfl) fun h => h
            have d2 := kd.cell_some (c2.trans rfl) fun h => h
            have d3 := kd.cell_some (c3.trans rfl) fun h => h
            refine draw (.take 0 (.take 1 (.take 2 (.alt 3 (.alt 4 (.take 5 (.take 6 (.take 7 (.take 8 (.alt 9 (.alt 10 (.take 11 (.take 12 .done)) .stop) .stop))))) (.alt 9 (.alt 4 (.take 5 (.take 6 (.take 7 (.take 8 (.alt 10 (.take 11 (.take 12 .done)) .stop))))) .stop) .stop)) (.alt 9 (.alt 3 (.alt 4 (.take 5 (.take 6 (.take 7 (.take 8 (.alt 10 (.take 11 (.take 12 .done)) .stop))))) .stop) .stop) .stop))))) (by kernel_rfl) (fun wz => Nw w4 wz) kd ?_
            simp -dsimp [go_sem, d0, d1, d2, d3, hov, mk]
            have d0' : w4.cell? ⟨y, 0, none⟩ = some (.string ⟨#[97]⟩) := c0
            have d1' : w4.cell? ⟨y, 1, none⟩ = some (i64 1) := c1
            have d2' : w4.cell? ⟨y, 2, none⟩ = some (i64 (fullB i).next) := c2
            have d3' : w4.cell? ⟨y, 3, none⟩ = some (.slice A ln c) := c3
            refine ⟨fun wz hz => by simp [hz.cell_some d0' fun h => h, hz.cell_some d1' fun h => h, hz.cell_some d2' fun h => h, hz.cell_some d3' fun h => h], ?_⟩
            clear c0 c1 c2 c3 d0 d1 d2 d3
            have kA : Nw w4 (w4.alloc (.cells (Array.replicate sz (u8 0)) 5)).drew := ((Kp.refl _ _).alloc _).drew
            have kB : Nw w4 (w4.alloc (.cells #[.string ⟨#[]⟩, .int .i64 0, .int .i64 0, .slice none 0 0] 26)).drew := ((Kp.refl _ _).alloc _).drew
            have kAB : Nw w4 ((w4.alloc (.cells (Array.replicate sz (u8 0)) 5)).alloc (.cells #[.string ⟨#[]⟩, .int .i64 0, .int .i64 0, .slice none 0 0] 26)).drew := (((Kp.refl _ _).alloc _).alloc _).drew
            have kBA : Nw w4 ((w4.alloc (.cells #[.string ⟨#[]⟩, .int .i64 0, .int .i64 0, .slice none 0 0] 26)).alloc (.cells (Array.replicate sz (u8 0)) 5)).drew := (((Kp.refl _ _).alloc _).alloc _).drew
            have hrA : Rd (w4.alloc (.cells (Array.replicate sz (u8 0)) 5)).drew (some ⟨w4.heap.size, 0, none⟩) ((List.replicate sz (0 : UInt8)).map u8) := (Rd.fresh rfl (by simp)).nw ((Kp.refl _ _).drew)
            have hrAB : Rd ((w4.alloc (.cells (Array.replicate sz (u8 0)) 5)).alloc (.cells #[.string ⟨#[]⟩, .int .i64 0, .int .i64 0, .slice none 0 0] 26)).drew (some ⟨w4.heap.size, 0, none⟩) ((List.replicate sz (0 : UInt8)).map u8) := (Rd.fresh rfl (by simp)).nw (((Kp.refl _ _).alloc _).drew)
            have hrBA : Rd ((w4.alloc (.cells #[.string ⟨#[]⟩, .int .i64 0, .int .i64 0, .slice none 0 0] 26)).alloc (.cells (Array.replicate sz (u8 0)) 5)).drew (some ⟨w4.heap.size + 1, 0, none⟩) ((List.replicate sz (0 : UInt8)).map u8) := (Rd.fresh (by simp) (by simp)).nw ((Kp.refl _ _).drew)
            have hszl : (List.replicate sz (0 : UInt8)).length = sz := List.length_replicate
            refine ⟨⟨kA, ?_, kAB, ?_⟩, kB, kBA, ?_⟩
            · refine call (add_rep _ (fullB i) _ sz _ _ (hO4.rb.nw kA) (by omega) hbod hnx hrA) ?_
              rintro v w5 ⟨⟨bv, rfl, hO5⟩, hk5⟩
              rw [e5] at hO5
              replace hO5 : OB w5 bv (fullB i) _ := hO5
              obtain ⟨A5, c5, rfl⟩ := hO5.open_
              rw [← hln] at hO5 ⊢
              have k45 := (kA).nw hk5
              refine ⟨k45, ?_⟩
              have d3'5 := k45.cell_some d3' fun h => h
              have kt : Nw w5 (w5.alloc (.cells #[.string (fullB i).name, .int .i64 (fullB i).val, .int .i64 (fullB i).next, .slice A5 ln c5] 26)) := (Kp.refl _ _).alloc _
              have d36 := kt.cell_some d3'5 fun h => h
              simp -dsimp [go_sem, e5, d3'5, d36, hmin]
              refine ⟨k45.alloc _, k45.alloc _, ?_⟩
              refine call (bxknown_spec _) ?_
              rintro v w6 ⟨rfl, hk6⟩
              simp -dsimp [go_sem]
              exact ((n4.nw k45).nw kt).nw hk6
            · refine call (add_rep _ (fullB i) _ sz _ _ (hO4.rb.nw kAB) (by omega) hbod hnx hrAB) ?_
              rintro v w5 ⟨⟨bv, rfl, hO5⟩, hk5⟩
              rw [e5] at hO5
              replace hO5 : OB w5 bv (fullB i) _ := hO5
              obtain ⟨A5, c5, rfl⟩ := hO5.open_
              rw [← hln] at hO5 ⊢
              have k45 := (kAB).nw hk5
              refine ⟨k45, ?_⟩
              have d3'5 := k45.cell_some d3' fun h => h
              have hzb : Blk ((w4.alloc (.cells (Array.replicate sz (u8 0)) 5)).alloc (.cells #[.string ⟨#[]⟩, .int .i64 0, .int .i64 0, .slice none 0 0] 26)).drew (w4.heap.size + 1) 26 #[.string ⟨#[]⟩, .int .i64 0, .int .i64 0, .slice none 0 0] := (Blk.fresh (by simp)).nw ((Kp.refl _ _).drew)
              have hz5 := hzb.nw hk5
              have z0 := hz5.cell 0
              have z1 := hz5.cell 1
              have z2 := hz5.cell 2
              have z3 := hz5.cell 3
              have f0 := hz5.frozen 0
              have f1 := hz5.frozen 1
              have f2 := hz5.frozen 2
              have f3 := hz5.frozen 3
              have hyg : y ≠ w4.heap.size + 1 := by omega
              have hgy : w4.heap.size + 1 ≠ y := by omega
              have ks := kp_set4 w5 (w4.heap.size + 1) (.string (fullB i).name) (i64 (fullB i).val) (i64 (fullB i).next) (.slice A5 ln c5)
              have ks4 := k45.at_ ks fun k (e : k = w4.heap.size + 1) => by omega
              have d36 := ks.cell_some d3'5 (by show ¬ y = w4.heap.size + 1; omega)
              simp -dsimp [go_sem, e5, d3'5, d36, hmin, z0, z1, z2, z3, f0, f1, f2, f3, hyg, hgy]
              refine ⟨ks4, ?_⟩
              refine call (bxknown_spec _) ?_
              rintro v w6 ⟨rfl, hk6⟩
              simp -dsimp [go_sem]
              exact (n4.nw ks4).nw hk6
            · refine call (add_rep _ (fullB i) _ sz _ _ (hO4.rb.nw kBA) (by omega) hbod hnx hrBA) ?_
              rintro v w5 ⟨⟨bv, rfl, hO5⟩, hk5⟩
              rw [e5] at hO5
              replace hO5 : OB w5 bv (fullB i) _ := hO5
              obtain ⟨A5, c5, rfl⟩ := hO5.open_
              rw [← hln] at hO5 ⊢
              have k45 := (kBA).nw hk5
              refine ⟨k45, ?_⟩
              have d3'5 := k45.cell_some d3' fun h => h
              have hzb : Blk ((w4.alloc (.cells #[.string ⟨#[]⟩, .int .i64 0, .int .i64 0, .slice none 0 0] 26)).alloc (.cells (Array.replicate sz (u8 0)) 5)).drew w4.heap.size 26 #[.string ⟨#[]⟩, .int .i64 0, .int .i64 0, .slice none 0 0] := (Blk.new _ _ _).nw (((Kp.refl _ _).alloc _).drew)
              have hz5 := hzb.nw hk5
              have z0 := hz5.cell 0
              have z1 := hz5.cell 1
              have z2 := hz5.cell 2
              have z3 := hz5.cell 3
              have f0 := hz5.frozen 0
              have f1 := hz5.frozen 1
              have f2 := hz5.frozen 2
              have f3 := hz5.frozen 3
              have hyg : y ≠ w4.heap.size := by omega
              have hgy : w4.heap.size ≠ y := by omega
              have ks := kp_set4 w5 (w4.heap.size) (.string (fullB i).name) (i64 (fullB i).val) (i64 (fullB i).next) (.slice A5 ln c5)
              have ks4 := k45.at_ ks fun k (e : k = w4.heap.size) => by omega
              have d36 := ks.cell_some d3'5 (by show ¬ y = w4.heap.size; omega)
              simp -dsimp [go_sem, e5, d3'5, d36, hmin, z0, z1, z2, z3, f0, f1, f2, f3, hyg, hgy]
              refine ⟨ks4, ?_⟩
              refine call (bxknown_spec _) ?_
              rintro v w6 ⟨rfl, hk6⟩
              simp -dsimp [go_sem]
              exact (n4.nw ks4).nw hk6
end Go.Proofs.Ytindfpaahlijeaa
