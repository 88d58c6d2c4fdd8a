/-
  BoxMarks walked. By the session itself.
-/
import Derived.Test.YtindfpaahlijeaaBxK
namespace Go.Proofs.Ytindfpaahlijeaa
set_option linter.unusedSimpArgs false
set_option linter.unusedVariables false
set_option maxRecDepth 100000
set_option maxHeartbeats 2000000
open Go.Vc Go.RowKit

theorem mk1_uid (uids : List Int) (mode flags : Int) (m : Msg) : (mk1 uids mode flags m).uid = m.uid := by unfold mk1; split <;> rfl
theorem mk1_body (uids : List Int) (mode flags : Int) (m : Msg) : (mk1 uids mode flags m).body = m.body := by unfold mk1; split <;> rfl
theorem mk1_not {uids : List Int} (mode flags : Int) {m : Msg} (h : m.uid ∉ uids) : mk1 uids mode flags m = m := by unfold mk1; rw [if_neg h]
theorem markN_snoc (uids : List Int) (mode flags : Int) (l : List Msg) (m : Msg) : markN uids mode flags (l ++ [m]) = markN uids mode flags l + if (mk1 uids mode flags m).flags != m.flags then 1 else 0 := by
  unfold markN mk1
  rw [List.filter_append, List.length_append]
  congr 1
  by_cases h : m.uid ∈ uids
  · by_cases h2 : applyF mode m.flags flags = m.flags <;> simp [h, h2]
  · simp [h]
theorem marks_law (v : Value) (b : Bx) (uids : List Int) (X : Option Addr) (xc : Nat) (mode flags : Int) (w : World) (h : RB w v b (fun _ => False)) (hn : b.name.size ≤ 9223372036854775807) (hll : b.L.length ≤ 9223372036854775807) (hx : Rd w X (uids.map i64)) (hxl : uids.length ≤ 9223372036854775807) :
    Cal Try.prog 8 #[v, .slice X uids.length xc, i64 mode, i64 flags] w fun v' w' => v' = .bool true ∧ Nw w w' := by
  obtain ⟨A, c, q, rfl, hq, hc, hr, ho, hb⟩ := id h
  have hql : q.length = b.L.length := by rw [← hq, List.length_map]
  refine enter Try.mixed Try.func8 rfl (by kernel_rfl) ?_
  have k0 : Nw w (w.alloc (.cells #[.string b.name, i64 b.val, i64 b.next, .slice A b.L.length c] 26)) := (Kp.refl _ _).alloc _
  have hb0 : Blk (w.alloc (.cells #[.string b.name, i64 b.val, i64 b.next, .slice A b.L.length c] 26)) w.heap.size 26 #[.string b.name, i64 b.val, i64 b.next, .slice A b.L.length c] := Blk.new _ _ _
  obtain ⟨x, hx'⟩ : ∃ x, x = w.heap.size := ⟨_, rfl⟩
  simp -dsimp [go_sem]
  rw [← hx'] at hb0 ⊢
  generalize w.alloc (.cells #[.string b.name, i64 b.val, i64 b.next, .slice A b.L.length c] 26) = wa at *
  refine call (large_spec _ b _ wa (h.nw k0) hll) ?_
  rintro v1 w1 ⟨⟨r, rfl⟩, hk1⟩
  have n1 := k0.nw hk1
  cases r with
  | true =>
    simp -dsimp [go_sem]
    exact n1
  | false =>
    have c0 := (hb0.nw hk1).cell 0
    have c1 := (hb0.nw hk1).cell 1
    have c2 := (hb0.nw hk1).cell 2
    have c3 := (hb0.nw hk1).cell 3
    simp -dsimp [go_sem, c0, c1, c2, c3]
    refine call (ris_spec _ b _ w1 (h.nw n1) hn (by omega)) ?_
    rintro v2 w2 ⟨rfl, hk2⟩
    have n2 := n1.nw hk2
    cases his : isB b with
    | false =>
      simp -dsimp [go_sem]
      exact n2
    | true =>
      have hI := IsB.of his
      by_cases h60 : (60 : Int) < (uids.length : Int)
      · simp -dsimp [go_sem, h60]
        exact n2
      · by_cases hf0 : flags < 0
        · simp -dsimp [go_sem, h60, hf0]
          exact n2
        · by_cases hf1 : 31 < flags
          · simp -dsimp [go_sem, h60, hf0, hf1]
            exact n2
          · have hb2 := (hb0.nw hk1).nw hk2
            clear c0 c1 c2 c3
            have c0 := hb2.cell 0
            have c1 := hb2.cell 1
            have c2 := hb2.cell 2
            have c3 := hb2.cell 3
            have hlen := hI.len
            have hbod : ∀ m ∈ b.L, m.body.length ≤ 1000000000 := fun m hm => by have := (hI.all m hm).2.2.2.2; omega
            simp -dsimp [go_sem, h60, hf0, hf1, c0, c1, c2, c3]
            refine call (mark_spec _ b _ uids mode flags X xc w2 (h.nw n2) (by omega) hbod (hx.nw n2) (by omega)) ?_
            rintro v3 w3 ⟨⟨bv, rfl, hO3⟩, hk3⟩
            obtain ⟨A4, c4, q4, rfl, hq4, hc4, hr4, ho4, hbd4⟩ := hO3.rb
            simp only [List.length_map] at hq4 hc4 hr4 ho4 hbd4 hO3
            have hql4 : q4.length = b.L.length := by rw [← List.length_map (f := Prod.fst), hq4, List.length_map]
            have hb3 := hb2.nw hk3
            have n3 := n2.nw hk3
            clear c0 c1 c2 c3
            obtain ⟨ln, hln⟩ : ∃ ln, ln = b.L.length := ⟨_, rfl⟩
            obtain ⟨mn, hmn⟩ : ∃ mn, mn = markN uids mode flags b.L := ⟨_, rfl⟩
            have kb : Nw w3 (w3.alloc (.cells #[.string b.name, i64 b.val, i64 b.next, .slice A4 ln c4] 26)) := (Kp.refl _ _).alloc _
            have hz4 : Blk (w3.alloc (.cells #[.string b.name, i64 b.val, i64 b.next, .slice A4 ln c4] 26)) w3.heap.size 26 #[.string b.name, i64 b.val, i64 b.next, .slice A4 ln c4] := Blk.new _ _ _
            have hb4 := hb3.nw kb
            have n4 := n3.nw kb
            have hr4 := hr4.nw kb
            have hbd4 : Bds _ q4 _ := fun p hp => (hbd4 p hp).nw kb
            obtain ⟨z, hz'⟩ : ∃ z, z = w3.heap.size := ⟨_, rfl⟩
            rw [← hz'] at hz4
            simp only [← hln] at hb4 hO3 ⊢
            have c3 := hb4.cell 3
            have z3 := hz4.cell 3
            simp -dsimp [go_sem, ← hz', ← hln, ← hmn, c3, z3]
            generalize w3.alloc (.cells #[.string b.name, i64 b.val, i64 b.next, .slice A4 ln c4] 26) = w4 at *
            clear c3 z3
            refine loop [8, 11, 12, 13, 14, 50, 51, 52, 53, 54, 55, 56, 57, 58, 59, 60, 61, 62, 63, 64, 65, 66, 67, 68, 69, 70, 71, 72, 73, 74, 75, 76, 77, 78, 79, 80, 81, 82, 83, 84, 85, 86, 87, 88, 89, 90, 91, 92, 93, 94, 95, 96, 97, 98, 99, 100, 101, 102, 103, 104, 105, 106, 107, 108, 109, 110, 111, 112, 113, 114, 115, 116, 117, 118, 119, 120, 121, 122, 123, 124, 125, 126, 127, 128, 129, 130, 131, 132, 133, 134, 135, 136, 137, 138, 139, 140] (by kernel_rfl)
              (fun f w' => Box2 (fun a t w' => ∃ i n : Nat, a = i64 i ∧ i ≤ b.L.length ∧ t = i64 n ∧ n = markN uids mode flags (b.L.take i) ∧ Nw w4 w') (f 12) (f 11) w') (fun f _ => b.L.length - (intOf (f 12)).toNat) ⟨0, 0, rfl, by omega, rfl, rfl, Kp.refl _ _⟩ ?_
            rintro f w5 ⟨i, n, f12, hi, f11, hn', n5⟩
            have hnl := markN_le uids mode flags (b.L.take i)
            rw [List.length_take] at hnl
            have c3 : w5.cell? ⟨x, 3, none⟩ = some (.slice A ln c) := (hb4.nw n5).cell 3
            by_cases hlt : i < b.L.length
            · have hltn : i < ln := by omega
              have hi1 : IntKind.i64.wrap ((i : Int) + 1) = ((i + 1 : Nat) : Int) := by rw [w64 (by omega) (by omega)]; omega
              obtain ⟨i1, hi1'⟩ : ∃ i1, i1 = i + 1 := ⟨_, rfl⟩
              have hn1 : IntKind.i64.wrap ((n : Int) + 1) = ((n + 1 : Nat) : Int) := by rw [w64 (by omega) (by omega)]; omega
              rw [← hi1'] at hi1
              have htk1 : b.L.take i1 = b.L.take i ++ [b.L[i]] := by rw [hi1', List.take_succ_eq_append_getElem hlt]
              have hltq : i < q.length := by omega
              have hltq4 : i < q4.length := by omega
              have hqi : q[i].1 = b.L[i] := by simp only [← hq, List.getElem_map]
              have hqi4 : q4[i].1 = mk1 uids mode flags b.L[i] := by
                have : (q4.map Prod.fst)[i]'(by simpa using hltq4) = (b.L.map (mk1 uids mode flags))[i]'(by simpa using hlt) := by congr 1
                simpa using this
              have hbq := hb _ (List.getElem_mem hltq)
              have hbq4 := hbd4 _ (List.getElem_mem hltq4)
              rw [hqi] at hbq
              rw [hqi4] at hbq4
              have hsn := markN_snoc uids mode flags (b.L.take i) b.L[i]
              rw [← htk1, ← hn'] at hsn
              simp -dsimp [go_sem, f12, c3, hltn]
              clear c3
              obtain ⟨u, hu⟩ : ∃ u, u = b.L[i].uid := ⟨_, rfl⟩
              obtain ⟨mf, hmf⟩ : ∃ mf, mf = b.L[i].flags := ⟨_, rfl⟩
              obtain ⟨ml, hml⟩ : ∃ ml, ml = b.L[i].body := ⟨_, rfl⟩
              obtain ⟨gf, hgf⟩ : ∃ gf, gf = (mk1 uids mode flags b.L[i]).flags := ⟨_, rfl⟩
              refine loop [13, 14, 57, 58, 59, 60, 61, 62, 63, 64, 65, 66, 67, 68, 69, 70, 71, 72, 73, 74, 75, 76] (by kernel_rfl)
                (fun f w' => Box2 (fun a l w' => ∃ j : Nat, a = i64 j ∧ j ≤ uids.length ∧ l = .bool (decide (u ∈ uids.take j)) ∧ Nw w5 w') (f 14) (f 13) w') (fun f _ => uids.length - (intOf (f 14)).toNat) ⟨0, rfl, by omega, by simp [upd], Kp.refl _ _⟩ ?_
              rintro g w6 ⟨j, g14, hj, g13, n6⟩
              have n46 := n5.nw n6
              have c3 : w6.cell? ⟨x, 3, none⟩ = some (.slice A ln c) := (hb4.nw n46).cell 3
              have z3 : w6.cell? ⟨z, 3, none⟩ = some (.slice A4 ln c4) := (hz4.nw n46).cell 3
              obtain ⟨ga, go, rfl, e0, e1, e2, e3⟩ := msg_at (((hr.nw n4).nw n46)) hltq
              obtain ⟨gb, gp, rfl, y0, y1, y2, y3⟩ := msg_at (hr4.nw n46) hltq4
              have kd : Nw w6 w6.drew := (Kp.refl _ _).drew
              have c3d := kd.cell_some c3 fun h => h
              rw [hqi, ← hu] at e0
              have d0 := kd.cell_some e0 fun h => h
              by_cases hjl : j < uids.length
              · have hj1 : IntKind.i64.wrap ((j : Int) + 1) = ((j + 1 : Nat) : Int) := by rw [w64 (by omega) (by omega)]; omega
                obtain ⟨j1, hj1'⟩ : ∃ j1, j1 = j + 1 := ⟨_, rfl⟩
                rw [← hj1'] at hj1
                obtain ⟨xa, xo, rfl, ex⟩ := rd_int ((hx.nw n4).nw n46) hjl
                have htk : uids.take j1 = uids.take j ++ [uids[j]] := by rw [hj1', List.take_succ_eq_append_getElem hjl]
                have dx := kd.cell_some ex fun h => h
                by_cases hmem : u ∈ uids.take j
                · have hm1 : u ∈ uids.take j1 := by rw [htk]; exact List.mem_append_left _ hmem
                  simp -dsimp [go_sem, f12, g14, g13, hjl, hmem]
                  refine draw (.take 0 (.take 1 (.take 2 (.take 3 (.take 4 (.take 5 (.take 6 (.take 7 (.take 8 (.take 9 (.take 10 (.take 11 (.take 12 (.take 13 (.take 14 .done))))))))))))))) (by kernel_rfl) (fun wz => Nw w6 wz) kd ?_
                  simp -dsimp [go_sem, f12, g14, g13, d0, dx, c3d, hmem, hjl, hltn, hj1]
                  exact ⟨⟨j1, rfl, by omega, by simp [hm1], n6.nw kd⟩, by simp [intOf]; omega⟩
                · have hm1 : (u ∈ uids.take j1) ↔ uids[j] = u := by rw [htk, List.mem_append, List.mem_singleton]; exact ⟨fun h => h.elim (fun h => absurd h hmem) Eq.symm, fun h => .inr h.symm⟩
                  simp -dsimp [go_sem, f12, g14, g13, hjl, hmem]
                  refine draw (.take 0 (.take 1 (.take 2 (.take 3 (.take 4 (.take 5 (.take 6 (.take 7 (.take 8 (.take 9 (.take 10 (.take 11 (.take 12 (.take 13 (.take 14 .done))))))))))))))) (by kernel_rfl) (fun wz => Nw w6 wz) kd ?_
                  simp -dsimp [go_sem, f12, g14, g13, d0, dx, c3d, hmem, hjl, hltn, hj1]
                  refine ⟨fun wz hz => by simp [hz.cell_some ex fun h => h], fun wz hz => by simp [hz.cell_some c3 fun h => h], fun wz hz => by simp [hz.cell_some e0 fun h => h], ?_⟩
                  exact ⟨⟨j1, rfl, by omega, by rw [decide_eq_decide.2 hm1]; rfl, n6.nw kd⟩, by simp [intOf]; omega⟩
              · obtain rfl : j = uids.length := by omega
                rw [List.take_length] at g13
                rw [hqi4, mk1_uid, ← hu] at y0
                rw [hqi4, ← hgf] at y1
                rw [hqi, ← hmf] at e1
                generalize q[i].2 = mv at *
                generalize q4[i].2 = kv at *
                obtain ⟨Bm, dm, rfl, hrm, hom, hdm⟩ := hbq
                obtain ⟨Bk, dk, rfl, hrk, hok, hdk⟩ := hbq4
                rw [mk1_body, ← hml] at hrk hok hdk
                rw [mk1_body, ← hml] at y3
                rw [← hml] at hrm hom hdm e3
                have hcm : ∀ W, Nw w6 W → (convert 29 9 (.slice Bm ml.length dm)).run Try.prog W = .ok (.string ⟨ml.toArray⟩) W := fun W hW => conv_str (e := 5) (by kernel_rfl) (by kernel_rfl) (by kernel_rfl) (((hrm.nw n4).nw n46).nw hW)
                have hck : ∀ W, Nw w6 W → (convert 29 9 (.slice Bk ml.length dk)).run Try.prog W = .ok (.string ⟨ml.toArray⟩) W := fun W hW => conv_str (e := 5) (by kernel_rfl) (by kernel_rfl) (by kernel_rfl) ((hrk.nw n46).nw hW)
                have d1 := kd.cell_some e1 fun h => h
                have d3 := kd.cell_some e3 fun h => h
                have z3d := kd.cell_some z3 fun h => h
                have y0d := kd.cell_some y0 fun h => h
                have y1d := kd.cell_some y1 fun h => h
                have y3d := kd.cell_some y3 fun h => h
                have hcmd := hcm _ kd
                have hckd := hck _ kd
                rw [← hgf, ← hmf] at hsn
                cases hmem : decide (u ∈ uids) with
                | true =>
                  rw [hmem] at g13
                  simp -dsimp [go_sem, f12, g14, g13]
                  refine draw (.take 0 (.take 1 (.take 2 (.take 3 (.take 4 (.take 5 (.take 6 (.take 7 (.take 8 (.take 9 (.take 10 (.take 11 (.take 12 (.take 13 (.take 14 (.take 15 (.take 16 (.take 17 (.take 18 (.take 19 (.take 20 (.take 21 (.take 22 (.take 23 (.take 24 (.take 25 (.take 26 (.take 27 (.take 28 (.take 29 (.take 30 (.take 31 (.take 32 (.take 33 (.take 34 (.take 35 (.take 36 (.take 37 (.take 38 (.take 39 (.take 40 (.take 41 (.take 42 (.take 43 (.take 44 (.take 45 (.take 46 (.take 47 (.take 48 .done))))))))))))))))))))))))))))))))))))))))))))))))) (by kernel_rfl) (fun wz => Nw w6 wz) kd ?_
                  simp -dsimp [go_sem, f12, g13, hltn, d0, d1, d3, c3d, z3d, y0d, y1d, y3d, hcmd, hckd]
                  repeat refine ⟨fun wz hz => by first | exact hcm wz hz | exact hck wz hz | simp [hz.cell_some c3 fun h => h, hz.cell_some z3 fun h => h, hz.cell_some e0 fun h => h, hz.cell_some e1 fun h => h, hz.cell_some e3 fun h => h, hz.cell_some y0 fun h => h, hz.cell_some y1 fun h => h, hz.cell_some y3 fun h => h], ?_⟩
                  by_cases hgm : gf = mf
                  · have he : (gf != mf) = false := by simpa using hgm
                    rw [he] at hsn
                    have kd2 : Nw w6 w6.drew.drew := kd.drew
                    have c3e := kd2.cell_some c3 fun h => h
                    have d1e := kd2.cell_some e1 fun h => h
                    have z3e := kd2.cell_some z3 fun h => h
                    have y1e := kd2.cell_some y1 fun h => h
                    refine draw (.take 0 (.take 1 (.take 2 (.take 3 (.take 4 (.take 5 (.take 6 (.take 7 (.take 8 (.take 9 (.take 10 (.take 11 (.take 12 .done))))))))))))) (by kernel_rfl) (fun wz => Nw w6 wz) kd2 ?_
                    simp -dsimp [go_sem, f12, f11, hltn, d1e, c3e, z3e, y1e, he, hi1, hn1]
                    repeat refine ⟨fun wz hz => by simp [hz.cell_some c3 fun h => h, hz.cell_some z3 fun h => h, hz.cell_some e1 fun h => h, hz.cell_some y1 fun h => h], ?_⟩
                    exact ⟨⟨i1, n, rfl, by omega, rfl, by rw [hsn]; simp, n5.nw (n6.nw kd2)⟩, by simp [intOf]; omega⟩
                  · have he : (gf != mf) = true := by simpa using hgm
                    rw [he] at hsn
                    have kd2 : Nw w6 w6.drew.drew := kd.drew
                    have c3e := kd2.cell_some c3 fun h => h
                    have d1e := kd2.cell_some e1 fun h => h
                    have z3e := kd2.cell_some z3 fun h => h
                    have y1e := kd2.cell_some y1 fun h => h
                    refine draw (.take 0 (.take 1 (.take 2 (.take 3 (.take 4 (.take 5 (.take 6 (.take 7 (.take 8 (.take 9 (.take 10 (.take 11 (.take 12 .done))))))))))))) (by kernel_rfl) (fun wz => Nw w6 wz) kd2 ?_
                    simp -dsimp [go_sem, f12, f11, hltn, d1e, c3e, z3e, y1e, he, hi1, hn1]
                    repeat refine ⟨fun wz hz => by simp [hz.cell_some c3 fun h => h, hz.cell_some z3 fun h => h, hz.cell_some e1 fun h => h, hz.cell_some y1 fun h => h], ?_⟩
                    exact ⟨⟨i1, n + 1, rfl, by omega, rfl, by rw [hsn]; simp, n5.nw (n6.nw kd2)⟩, by simp [intOf]; omega⟩
                | false =>
                  rw [hmem] at g13
                  have hgm0 : gf = mf := by rw [hgf, hmf, mk1_not mode flags (by rw [← hu]; simpa using hmem)]
                  have he0 : (gf != mf) = false := by simpa using hgm0
                  simp -dsimp [go_sem, f12, g14, g13]
                  refine draw (.take 0 (.take 1 (.take 2 (.take 3 (.take 4 (.take 5 (.take 6 (.take 7 (.take 8 (.take 9 (.take 10 (.take 11 (.take 12 (.take 13 (.take 14 (.take 15 (.take 16 (.take 17 (.take 18 (.take 19 (.take 20 (.take 21 (.take 22 (.take 23 (.take 24 (.take 25 (.take 26 (.take 27 (.take 28 (.take 29 (.take 30 (.take 31 (.take 32 (.take 33 (.take 34 (.take 35 (.take 36 (.take 37 (.take 38 (.take 39 (.take 40 (.take 41 (.take 42 (.take 43 (.take 44 (.take 45 (.take 46 (.take 47 (.take 48 .done))))))))))))))))))))))))))))))))))))))))))))))))) (by kernel_rfl) (fun wz => Nw w6 wz) kd ?_
                  simp -dsimp [go_sem, f12, g13, hltn, d0, d1, d3, c3d, z3d, y0d, y1d, y3d, hcmd, hckd, he0]
                  repeat refine ⟨fun wz hz => by first | exact hcm wz hz | exact hck wz hz | simp [hz.cell_some c3 fun h => h, hz.cell_some z3 fun h => h, hz.cell_some e0 fun h => h, hz.cell_some e1 fun h => h, hz.cell_some e3 fun h => h, hz.cell_some y0 fun h => h, hz.cell_some y1 fun h => h, hz.cell_some y3 fun h => h], ?_⟩
                  by_cases hgm : gf = mf
                  · have he : (gf != mf) = false := by simpa using hgm
                    rw [he] at hsn
                    have kd2 : Nw w6 w6.drew.drew := kd.drew
                    have c3e := kd2.cell_some c3 fun h => h
                    have d1e := kd2.cell_some e1 fun h => h
                    have z3e := kd2.cell_some z3 fun h => h
                    have y1e := kd2.cell_some y1 fun h => h
                    refine draw (.take 0 (.take 1 (.take 2 (.take 3 (.take 4 (.take 5 (.take 6 (.take 7 (.take 8 (.take 9 (.take 10 (.take 11 (.take 12 .done))))))))))))) (by kernel_rfl) (fun wz => Nw w6 wz) kd2 ?_
                    simp -dsimp [go_sem, f12, f11, hltn, d1e, c3e, z3e, y1e, he, hi1, hn1]
                    repeat refine ⟨fun wz hz => by simp [hz.cell_some c3 fun h => h, hz.cell_some z3 fun h => h, hz.cell_some e1 fun h => h, hz.cell_some y1 fun h => h], ?_⟩
                    exact ⟨⟨i1, n, rfl, by omega, rfl, by rw [hsn]; simp, n5.nw (n6.nw kd2)⟩, by simp [intOf]; omega⟩
                  · have he : (gf != mf) = true := by simpa using hgm
                    rw [he] at hsn
                    have kd2 : Nw w6 w6.drew.drew := kd.drew
                    have c3e := kd2.cell_some c3 fun h => h
                    have d1e := kd2.cell_some e1 fun h => h
                    have z3e := kd2.cell_some z3 fun h => h
                    have y1e := kd2.cell_some y1 fun h => h
                    refine draw (.take 0 (.take 1 (.take 2 (.take 3 (.take 4 (.take 5 (.take 6 (.take 7 (.take 8 (.take 9 (.take 10 (.take 11 (.take 12 .done))))))))))))) (by kernel_rfl) (fun wz => Nw w6 wz) kd2 ?_
                    simp -dsimp [go_sem, f12, f11, hltn, d1e, c3e, z3e, y1e, he, hi1, hn1]
                    repeat refine ⟨fun wz hz => by simp [hz.cell_some c3 fun h => h, hz.cell_some z3 fun h => h, hz.cell_some e1 fun h => h, hz.cell_some y1 fun h => h], ?_⟩
                    exact ⟨⟨i1, n + 1, rfl, by omega, rfl, by rw [hsn]; simp, n5.nw (n6.nw kd2)⟩, by simp [intOf]; omega⟩
            · obtain rfl : i = b.L.length := by omega
              rw [List.take_length] at hn'
              have hnn : n = mn := by omega
              subst hnn
              simp -dsimp [go_sem, f12, f11, c3, hln]
              refine call (bxknown_spec _) ?_
              rintro v w7 ⟨rfl, hk7⟩
              simp -dsimp [go_sem]
              exact (n4.nw n5).nw hk7
end Go.Proofs.Ytindfpaahlijeaa
