/-
  BoxOwn walked. By the session itself.
-/
import Derived.Test.YtindfpaahlijeaaBxQ
import Derived.Test.YtindfpaahlijeaaBxM
namespace Go.Proofs.Ytindfpaahlijeaa
set_option linter.unusedSimpArgs false
set_option linter.unusedVariables false
set_option maxRecDepth 100000
set_option maxHeartbeats 2000000
open Go.Vc Go.RowKit

theorem EncR.yes {v : Value} {w : World} {b : Bx} {B : Nat} (h : EncR v w b B) (hi : isB b = true) : ∃ u, v = .tuple #[u, i64 0] ∧ Bs w u (encX b) B := by
  rcases h with ⟨_, h⟩ | ⟨hf, _⟩
  · exact h
  · rw [hi] at hf; cases hf
theorem addB_L (b : Bx) (flags date : Int) (body : List UInt8) : (addB b flags date body).1.L = b.L ++ [⟨b.next, flags, date, body⟩] ∨ (addB b flags date body).2.2 ≠ 0 := by
  unfold addB
  by_cases h1 : (okF flags 0 31 && okF date 0 1073741824) = false
  · rw [if_pos h1]; exact .inr (by simp)
  · rw [if_neg h1]
    repeat' (first | exact .inl rfl | (refine .inr ?_; simp; done) | split)
theorem own_law (v : Value) (b : Bx) (uids : List Int) (X : Option Addr) (xc : Nat) (bd : List UInt8) (Y : Option Addr) (yc : Nat) (w : World) (h : RB w v b (fun _ => False)) (hn : b.name.size ≤ 9223372036854775807) (hll : b.L.length ≤ 9223372036854775807) (hx : Rd w X (uids.map i64)) (hxl : uids.length ≤ 9223372036854775807) (hy : Rd w Y (bd.map u8)) (hyl : bd.length ≤ 9223372036854775807) :
    Cal Try.prog 7 #[v, .slice X uids.length xc, .slice Y bd.length yc] w fun v' w' => v' = .bool true ∧ Nw w w' := by
  obtain ⟨A, c, q, rfl, hq, hc, hr, ho, hb⟩ := id h
  have hql : q.length = b.L.length := by rw [← hq, List.length_map]
  refine enter Try.mixed Try.func7 rfl (by kernel_rfl) ?_
  have k0 : Nw w (w.alloc (.cells #[.string b.name, i64 b.val, i64 b.next, .slice A b.L.length c] 26)) := (Kp.refl _ _).alloc _
  have hb0 : Blk (w.alloc (.cells #[.string b.name, i64 b.val, i64 b.next, .slice A b.L.length c] 26)) w.heap.size 26 #[.string b.name, i64 b.val, i64 b.next, .slice A b.L.length c] := Blk.new _ _ _
  obtain ⟨x, hx'⟩ : ∃ x, x = w.heap.size := ⟨_, rfl⟩
  simp -dsimp [go_sem]
  rw [← hx'] at hb0 ⊢
  generalize w.alloc (.cells #[.string b.name, i64 b.val, i64 b.next, .slice A b.L.length c] 26) = wa at *
  refine call (large_spec _ b _ wa (h.nw k0) hll) ?_
  rintro v1 w1 ⟨⟨r, rfl⟩, hk1⟩
  have n1 := k0.nw hk1
  cases r with
  | true =>
    simp -dsimp [go_sem]
    exact n1
  | false =>
    by_cases h60 : (60 : Int) < (uids.length : Int)
    · simp -dsimp [go_sem, h60]
      exact n1
    · by_cases h10 : (1000 : Int) < (bd.length : Int)
      · simp -dsimp [go_sem, h60, h10]
        exact n1
      · by_cases hz0 : bd.length = 0
        · have hz0' : ((bd.length : Int) == 0) = true := by simp [hz0]
          simp -dsimp [go_sem, h60, h10, hz0']
          exact n1
        · have hz0' : ((bd.length : Int) == 0) = false := beq_eq_false_iff_ne.2 (by omega)
          have c0 := (hb0.nw hk1).cell 0
          have c1 := (hb0.nw hk1).cell 1
          have c2 := (hb0.nw hk1).cell 2
          have c3 := (hb0.nw hk1).cell 3
          simp -dsimp [go_sem, h60, h10, hz0', c0, c1, c2, c3]
          refine call (ris_spec _ b _ w1 (h.nw n1) hn (by omega)) ?_
          rintro v2 w2 ⟨rfl, hk2⟩
          have n2 := n1.nw hk2
          cases his : isB b with
          | false =>
            simp -dsimp [go_sem]
            exact n2
          | true =>
            have hI := IsB.of his
            have hb2 := (hb0.nw hk1).nw hk2
            clear c0 c1 c2 c3
            have c0 := hb2.cell 0
            have c1 := hb2.cell 1
            have c2 := hb2.cell 2
            have c3 := hb2.cell 3
            have hlen := hI.len
            have hbod : ∀ m ∈ b.L, m.body.length ≤ 1000000000 := fun m hm => by have := (hI.all m hm).2.2.2.2; omega
            simp -dsimp [go_sem, h60, h10, c0, c1, c2, c3]
            refine call (rencode_spec _ b w2 (h.nw n2) hn (by omega)) ?_
            rintro v3 w3 ⟨hE, hk3⟩
            obtain ⟨u3, rfl, hB3⟩ := hE.yes his
            obtain ⟨A3, c3', rfl, ho3, hA3⟩ := id hB3
            have n3 := n2.nw hk3
            clear c0 c1 c2 c3
            simp -dsimp [go_sem]
            refine bs_fresh rfl rfl (hy.nw n3) (by omega) ?_
            intro v4 w4 hB4 hk4
            obtain ⟨A4, c4, rfl, ho4, hA4⟩ := id hB4
            have n4 := n3.nw hk4
            have hb4 := (hb2.nw hk3).nw hk4
            obtain ⟨g, rfl⟩ := ho4.some (by omega)
            have hg3 : w3.heap.size ≤ g := hA4 _ rfl
            have hg4 : g < w4.heap.size := ho4.lt _ rfl
            obtain ⟨_, _, e, g0⟩ := ho4.rd 0 (u8 bd[0]) (by rw [List.getElem?_map, List.getElem?_eq_getElem (by omega)]; rfl)
            cases e
            have c0 := hb4.cell 0
            have c1 := hb4.cell 1
            have c2 := hb4.cell 2
            have c3 := hb4.cell 3
            simp -dsimp [go_sem, c0, c1, c2, c3]
            refine call (add_spec _ b _ 1 2 bd _ c4 w4 (h.nw n4) (by omega) hbod ho4.rd (by have := hI.next; omega)) ?_
            rintro v w5 ⟨⟨bv, rfl, hO5⟩, hk5⟩
            have hax := addB_next b 1 2 bd
            have haL := addB_L b 1 2 bd
            generalize addB b 1 2 bd = r at *
            obtain ⟨b5, uid, code⟩ := r
            simp only at hax haL hO5
            obtain ⟨A5, c5, rfl⟩ := hO5.open_
            obtain ⟨l5, hl5⟩ : ∃ l5, l5 = b5.L.length := ⟨_, rfl⟩
            simp only [← hl5] at hO5 ⊢
            have k6 : Nw w5 (w5.alloc (.cells #[.string b5.name, i64 b5.val, i64 b5.next, .slice A5 l5 c5] 26)) := (Kp.refl _ _).alloc _
            have hy6 : Blk (w5.alloc (.cells #[.string b5.name, i64 b5.val, i64 b5.next, .slice A5 l5 c5] 26)) w5.heap.size 26 #[.string b5.name, i64 b5.val, i64 b5.next, .slice A5 l5 c5] := Blk.new _ _ _
            obtain ⟨y, hyw⟩ : ∃ y, y = w5.heap.size := ⟨_, rfl⟩
            have hgy : y ≠ g := by have := hk5.size; omega
            have k46 := hk5.nw k6
            have hb6 := hb4.nw k46
            have hO6 := hO5.nw k6
            have n6 := n4.nw k46
            clear c0 c1 c2 c3
            have c0 := hb6.cell 0
            have c1 := hb6.cell 1
            have c2 := hb6.cell 2
            have c3 := hb6.cell 3
            rw [← hyw] at hy6
            simp -dsimp [go_sem]
            rw [← hyw]
            generalize w5.alloc (.cells #[.string b5.name, i64 b5.val, i64 b5.next, .slice A5 l5 c5] 26) = w6 at *
            simp -dsimp [go_sem, c0, c1, c2, c3]
            refine call (mark_spec _ b _ uids 0 31 X xc w6 (h.nw n6) (by omega) hbod (hx.nw n6) (by omega)) ?_
            rintro v7 w7 ⟨_, hk7⟩
            have hb7 := hb6.nw hk7
            have n7 := n6.nw hk7
            clear c0 c1 c2 c3
            have c0 := hb7.cell 0
            have c1 := hb7.cell 1
            have c2 := hb7.cell 2
            have c3 := hb7.cell 3
            simp -dsimp [go_sem, c0, c1, c2, c3]
            refine call (expunge_spec _ b _ uids X xc w7 (h.nw n7) (by omega) hbod (hx.nw n7) (by omega)) ?_
            rintro v8 w8 ⟨_, hk8⟩
            have hb8 := hb7.nw hk8
            have n8 := n7.nw hk8
            clear c0 c1 c2 c3
            have k48 := (k46.nw hk7).nw hk8
            have g08 : w8.cell? ⟨g, 0, none⟩ = some (u8 bd[0]) := k48.cell_some g0 fun h => h
            obtain ⟨_, _, _, hcase⟩ := ho4.nw k48
            obtain ⟨gc, hgb⟩ : ∃ cur, Blk w8 g 5 cur := by
              rcases hcase with ⟨h, _⟩ | ⟨_, cur, e, hg, _⟩
              · cases h
              · cases e; exact ⟨cur, hg⟩
            have g0f := hgb.frozen 0
            obtain ⟨bl, hbl⟩ : ∃ bl, bl = bd.length := ⟨_, rfl⟩
            have hpos : 0 < bl := by omega
            have hpos' : (0 : Int) < (bl : Int) := by omega
            have hxg : x ≠ g := by have := hb2.lt; have := hk3.size; omega
            have hgx : g ≠ x := hxg.symm
            have hwg : w.heap.size ≤ g := Nat.le_trans n3.size hg3
            have ks : ∀ u, Kp (At g) w8 (w8.setCell ⟨g, 0, none⟩ u) := fun u => (Kp.refl _ _).setCell_at _ _
            have hR9 : ∀ u, RB (w8.setCell ⟨g, 0, none⟩ u) _ b (fun _ => False) := fun u => (((h.ofl (T := At g) fun i (e : i = g) => .inr (by omega)).nw n8).kp (ks u)).any
            have n9 : ∀ u, Nw w (w8.setCell ⟨g, 0, none⟩ u) := fun u => n8.at_ (ks u) fun k (e : k = g) => by omega
            have hb9 := fun u => hb8.kp (ks u) (by show ¬ x = g; exact hxg)
            have hy9 := fun u => ((hy6.nw hk7).nw hk8).kp (ks u) (by show ¬ y = g; exact hgy)
            have hO9 := fun u => ((hO6.nw hk7).nw hk8).kp (ks u) fun k hk _ (e : k = g) => by omega
            have hr3 := fun u => (ho3.rd.nw (hk4.nw k48)).kp (ks u) (ho3.rd.ofl fun k (e : k = g) => by omega)
            have hyr := fun u => (hy.nw n8).kp (ks u) (hy.ofl fun k (e : k = g) => by omega)
            have c0 := hb8.cell 0
            have c1 := hb8.cell 1
            have c2 := hb8.cell 2
            have c3 := hb8.cell 3
            simp -dsimp [go_sem, ← hbl, hpos, hpos', g08, g0f, hxg, hgx, c0, c1, c2, c3]
            clear c0 c1 c2 c3
            refine call (rencode_spec _ b _ (hR9 _) hn (by omega)) ?_
            rintro v10 w10 ⟨hE, hk10⟩
            obtain ⟨u10, rfl, hB10⟩ := hE.yes his
            obtain ⟨A10, c10, rfl, ho10, _⟩ := hB10
            have n10 := (n9 _).nw hk10
            have hb10 := (hb9 _).nw hk10
            have hy10 := (hy9 _).nw hk10
            have hO10 := (hO9 _).nw hk10
            have hr10 := (hr3 _).nw hk10
            have hyr10 := (hyr _).nw hk10
            clear hR9 n9 hb9 hy9 hO9 hr3 hyr
            have hcv1 : convR Try.prog 29 9 (.slice A10 (encX b).length c10) w10 = .ok (.string ⟨(encX b).toArray⟩) w10 := conv_str (e := 5) (by kernel_rfl) (by kernel_rfl) (by kernel_rfl) ho10.rd
            have hcv2 : convR Try.prog 29 9 (.slice A3 (encX b).length c3') w10 = .ok (.string ⟨(encX b).toArray⟩) w10 := conv_str (e := 5) (by kernel_rfl) (by kernel_rfl) (by kernel_rfl) hr10
            generalize encX b = X at *
            simp -dsimp [go_sem, hcv1, hcv2]
            by_cases hcode : code = 0
            · subst hcode
              simp -dsimp [go_sem]
              have hL5 : b5.L = b.L ++ [⟨b.next, 1, 2, bd⟩] := haL.resolve_right (by simp)
              obtain ⟨A5', c5', q5, e, hq5, hc5, hr5, _, hbd5⟩ := hO10.rb
              obtain ⟨rfl, _, rfl⟩ : A5 = A5' ∧ l5 = b5.L.length ∧ c5 = c5' := by simpa using e
              clear e
              obtain ⟨ln, hln⟩ : ∃ ln, ln = b.L.length := ⟨_, rfl⟩
              have hl5' : l5 = ln + 1 := by rw [hl5, hL5, List.length_append, hln]; rfl
              have hq5l : q5.length = l5 := by rw [hl5, ← hq5, List.length_map]
              have hlt : ln < q5.length := by omega
              have hlt5 : ln < l5 := by omega
              have hqm : q5[ln].1 = ⟨b.next, 1, 2, bd⟩ := by
                have h1 : (q5.map Prod.fst)[ln]? = some q5[ln].1 := by simp [hlt]
                have h2 : (b.L ++ [⟨b.next, 1, 2, bd⟩])[ln]? = some (⟨b.next, 1, 2, bd⟩ : Msg) := by rw [hln]; simp
                rw [hq5, hL5] at h1
                exact Option.some.inj (h1.symm.trans h2)
              have hbq := hbd5 _ (List.getElem_mem hlt)
              obtain ⟨g5, o5, rfl, _, _, _, e3⟩ := msg_at hr5 hlt
              rw [hqm] at hbq
              generalize q5[ln].2 = kv at *
              obtain ⟨Bk, dk, rfl, hrk, hok, hdk⟩ := hbq
              simp only at hrk hok hdk e3
              have hw1 : IntKind.i64.wrap ((ln : Int) + 1) = (l5 : Int) := by rw [w64 (by omega) (by omega)]; omega
              have hw2 : IntKind.i64.wrap ((l5 : Int) - 1) = (ln : Int) := by rw [w64 (by omega) (by omega)]; omega
              have x3 : w10.cell? ⟨x, 3, none⟩ = some (.slice A ln c) := by rw [hln]; exact hb10.cell 3
              have y3 : w10.cell? ⟨y, 3, none⟩ = some (.slice (some ⟨g5, o5, none⟩) l5 c5) := hy10.cell 3
              have kd : Nw w10 w10.drew := (Kp.refl _ _).drew
              have dx := kd.cell_some x3 fun h => h
              have dy := kd.cell_some y3 fun h => h
              have d3 := kd.cell_some e3 fun h => h
              have hcm : ∀ W, Nw w10 W → (convert 29 9 (.slice Bk bd.length dk)).run Try.prog W = .ok (.string ⟨bd.toArray⟩) W := fun W hW => conv_str (e := 5) (by kernel_rfl) (by kernel_rfl) (by kernel_rfl) (hrk.nw hW)
              have hck : ∀ W, Nw w10 W → (convert 29 9 (.slice Y bd.length yc)).run Try.prog W = .ok (.string ⟨bd.toArray⟩) W := fun W hW => conv_str (e := 5) (by kernel_rfl) (by kernel_rfl) (by kernel_rfl) (hyr10.nw hW)
              have hcmd := hcm _ kd
              have hckd := hck _ kd
              rw [← hbl] at hcm hck hcmd hckd e3 d3
              refine draw (.take 0 (.take 1 (.take 2 (.take 3 (.take 4 (.take 5 (.take 6 (.take 7 (.take 8 (.take 9 (.take 10 (.take 11 (.take 12 (.take 13 (.take 14 (.take 15 (.take 16 (.take 17 (.take 18 (.take 19 (.take 20 (.take 21 (.take 22 (.take 23 (.alt 24 (.take 25 (.take 26 .done)) .stop))))))))))))))))))))))))) (by kernel_rfl) (fun wz => Nw w10 wz) kd ?_
              simp -dsimp [go_sem, ← hbl, hw1, hw2, hlt5, dx, dy, d3, hcmd, hckd]
              repeat refine ⟨fun wz hz => by first | exact hcm wz hz | exact hck wz hz | simp [hz.cell_some x3 fun h => h, hz.cell_some y3 fun h => h, hz.cell_some e3 fun h => h], ?_⟩
              refine call (bxknown_spec _) ?_
              rintro v w11 ⟨rfl, hk11⟩
              refine ⟨kd.nw hk11, ?_⟩
              simp -dsimp [go_sem]
              exact n10.nw (kd.nw hk11)
            · have hcode' : (code != 0) = true := by simpa using hcode
              simp -dsimp [go_sem, hcode']
              refine call (bxknown_spec _) ?_
              rintro v w11 ⟨rfl, hk11⟩
              simp -dsimp [go_sem]
              exact n10.nw hk11
end Go.Proofs.Ytindfpaahlijeaa
