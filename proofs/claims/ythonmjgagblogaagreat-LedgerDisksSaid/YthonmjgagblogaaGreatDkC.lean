/-
  Append of a disk walked. By the session itself.
-/
import Derived.Test.YthonmjgagblogaaGreatDkB
namespace Go.Proofs.YthonmjgagblogaaGreat
set_option linter.unusedSimpArgs false
set_option linter.unusedVariables false
set_option maxRecDepth 100000
set_option maxHeartbeats 1000000
open Go.Vc Go.RowKit

theorem len_mp {α : Type} [DecidableEq α] {P : Program} {kt : TypeId} {κ : α → Value} (K : KeyS P kt κ) {mt et ty : TypeId} (ht : P.underlying mt = some (.map kt et)) {w : World} {r : Nat} {m : α → Option Value} (h : Mp w r κ m) {l : List α} (nd : l.Nodup) (hm : ∀ a, (m a).isSome = true ↔ a ∈ l) :
    (Builtin.len_ #[mt] ty #[.map (some r)]).run P w = .ok (i64 l.length) w := by
  obtain ⟨E, clock, hb, hE⟩ := h
  have hp : (E.toList.map (·.key)).Perm (l.map κ) := by
    refine (List.perm_ext_iff_of_nodup ?_ ?_).2 fun v => ?_
    · exact List.pairwise_map.2 hE.apart
    · exact List.pairwise_map.2 (nd.imp fun h e => h (K.inj _ _ e))
    · constructor
      · intro hv
        obtain ⟨e, he, rfl⟩ := List.mem_map.1 hv
        obtain ⟨a, ha⟩ := hE.keys e he
        rw [ha]
        exact List.mem_map.2 ⟨a, (hm a).1 (by rw [(hE.has a e.val).2 ⟨e, he, ha, rfl⟩]; rfl), rfl⟩
      · intro hv
        obtain ⟨a, ha, rfl⟩ := List.mem_map.1 hv
        have := (hm a).2 ha
        cases hma : m a with
        | none => rw [hma] at this; cases this
        | some u =>
          obtain ⟨e, he, hk, _⟩ := (hE.has a u).1 hma
          exact List.mem_map.2 ⟨e, he, hk⟩
  have hl := hp.length_eq
  rw [List.length_map, List.length_map] at hl
  have hl' : E.size = l.length := by rw [← hl, Array.length_toList]
  simp [Builtin.len_, run_underlying ht, Builtin.lenOf, getObj, Sem.run, hb, hl']
  rfl

theorem dappend_spec (s : Nm) (ps : List (List UInt8)) (A : Option Addr) (c g : Nat) (D : Dsk) (F S : Nat → Prop) (w : World) (h : Dk w g D F) (hr : Brs w A ps S) (hc : ps.length ≤ c) (hp : ps.length ≤ 140737488355328) (hl : ps.flatten.length ≤ 140737488355328) (hsl : s.length ≤ 9223372036854775807) :
    Cal Tryz.prog 6 #[.pointer (some ⟨g, 0, none⟩), str s, .slice A ps.length c] w fun v w' => v = i64 (dAppend D s ps.flatten).2 ∧ ∃ F', Dk w' g (dAppend D s ps.flatten).1 F' ∧ Gr F F' w w' ∧ Kp F w w' := by
  have K : KeyS Tryz.prog 9 (fun s : Nm => str s) := keyL (by kernel_rfl)
  have hmt : Tryz.prog.underlying 38 = some (.map 9 47) := by kernel_rfl
  refine enter Tryz.mixed Tryz.func6 rfl (by kernel_rfl) ?_
  simp -dsimp [go_sem]
  have ka : Nw w (w.alloc (.cells #[str s] 9)) := (Kp.refl _ _).alloc _
  have hmay := may_spec [s] (some ⟨w.heap.size, 0, none⟩) 1 g D F _ (h.nw ka) (Rd.fresh rfl rfl) (by simp) (by simpa using hsl)
  refine call hmay ?_
  rintro v w1 ⟨rfl, rfl⟩
  have hb : dAppend D s ps.flatten = if mayL D [s] ≠ 0 then (D, mayL D [s])
    else if D.room < D.used + ps.flatten.length ∨ (tLook D.fs s = .none ∧ 4096 ≤ D.fs.length) then (D, 6)
    else (Dsk.done { D with fs := tLay D.fs s ⟨((tLook D.fs s).getD .none).b ++ ps.flatten, ((tLook D.fs s).getD .none).l⟩ }, 0) := rfl
  obtain ⟨e, he⟩ : ∃ e, e = mayL D [s] := ⟨_, rfl⟩
  rw [← he] at hb ⊢
  by_cases h0 : e = 0
  · subst h0
    rw [if_neg (fun h => h rfl)] at hb
    have hn64 := mayL_names he.symm s (by simp)
    simp -dsimp [go_sem]
    refine call (join_spec ps A c _ S (hr.nw ka) hc hp hl) ?_
    rintro v w2 ⟨⟨A2, c2, rfl, ho2, hA2⟩, hk2⟩
    have k2 := ka.nw hk2
    obtain ⟨ok, r, z, ptr, Fs, hM⟩ := id (h.nw k2)
    have g0 := hM.blk.cell 0
    have g1 := hM.blk.cell 1
    have hlk := lookup_mp K hmt (z := .pointer none) (w := w2) rfl hM.mp s false
    obtain ⟨b, hbd⟩ : ∃ b, b = ps.flatten := ⟨_, rfl⟩
    rw [← hbd] at ho2 hb hl ⊢
    have hu : D.used ≤ 1073741824 := Nat.le_trans ok.used ok.room
    have hroom := ok.room
    have hused := ok.used
    have hsub : IntKind.i64.wrap ((D.room : Int) - (D.used : Int)) = ((D.room - D.used : Nat) : Int) := by rw [w64 (by omega) (by omega)]; omega
    obtain ⟨q, hq⟩ : ∃ q, q = D.room - D.used := ⟨_, rfl⟩
    rw [← hq] at hsub
    cases hs : tLook D.fs s with
    | some x =>
      have hm1 : Mf ptr D.fs s = some (.pointer (some ⟨ptr s, 0, none⟩)) := by simp [Mf, hs]
      rw [hm1] at hlk
      simp -dsimp [go_sem, g1, hlk]
      refine draw (.take 0 (.take 1 (.take 2 (.take 3 (.take 4 (.take 5 (.take 6 (.alt 7 (.take 8 (.take 9 (.take 10 (.take 11 (.take 12 (.take 13 (.take 14 (.take 15 (.take 16 (.take 17 (.take 18 (.take 19 (.take 20 (.take 21 .done)))))))))))))) .stop)))))))) (by kernel_rfl) (fun w1 => Nw w2 w1) ((Kp.refl _ _).drew) ?_
      simp -dsimp [go_sem, g0]
      refine ⟨fun w1 h1 => by simp [(hM.kp h1 fun _ _ h => h).blk.cell 0], ?_⟩
      refine call (used_spec g D F _ ((h.nw k2).nw ((Kp.refl _ w2).drew))) ?_
      rintro v w3 ⟨rfl, hk3⟩
      refine ⟨((Kp.refl _ w2).drew).nw hk3, ?_⟩
      have k3 : Nw w2 w3 := ((Kp.refl _ w2).drew).nw hk3
      have k03 := k2.nw k3
      by_cases hbig : q < b.length
      · rw [if_pos (.inl (by omega))] at hb
        have hbig' : (q : Int) < (b.length : Int) := by omega
        simp -dsimp [go_sem, hsub, hbig, hbig']
        rw [hb]
        exact ⟨rfl, F, h.nw k03, fun k h => .inl h, Nw.kp k03 F⟩
      · rw [if_neg (fun h => h.elim (fun h => by omega) fun h => by rw [hs] at h; cases h.1)] at hb
        have hbig' : ¬ (q : Int) < (b.length : Int) := by omega
        have hM3 := hM.kp k3 fun _ _ h => h
        obtain ⟨u, G, hfb, hBf, hnG, hin, hlt⟩ := hM3.files s x hs
        obtain ⟨A5, c5, rfl, ho5, h51, h52⟩ := id hBf
        have f0 := hfb.cell 0
        have hxu := sumv_ge (fun f : Fil => f.b.length) hs
        have hxu : x.b.length ≤ D.used := hxu
        simp -dsimp [go_sem, hsub, hbig, hbig', f0]
        refine bf_app hBf (ho2.nw k3).rd (by omega) ?_
        intro v4 w4 G4 hB4 hG4 hK4
        have hnG4 : ¬ G4 (ptr s) := fun e => by
          rcases hG4 _ e with e | e
          · exact hnG e
          · have := hlt _ (hin _ (.inl rfl)); omega
        have hfb4 := hfb.kp hK4 hnG
        have hfr4 := hfb4.frozen 0
        obtain ⟨y, hy⟩ : ∃ y, y = x.b ++ b := ⟨_, rfl⟩
        have hyl : y.length = x.b.length + b.length := by rw [hy, List.length_append]
        rw [← hy] at hB4
        obtain ⟨A6, c6, rfl, ho6, h61, h62⟩ := id hB4
        have f4 := hfb4.cell 0
        simp -dsimp [go_sem, hfr4, f4]
        have hset : Kp (At (ptr s)) w4 (w4.setCell ⟨ptr s, 0, none⟩ (.slice A6 y.length c6)) := (Kp.refl _ _).setCell_at _ _
        have hB5 := hB4.kp hset fun i hi (e : i = ptr s) => hnG4 (e ▸ hi)
        have hfb5 := Blk.set0 hfb4 0 (.slice A6 y.length c6) rfl
        have k5 : Kp (fun k => Fs s k ∨ k = r) w3 (w4.setCell ⟨ptr s, 0, none⟩ (.slice A6 y.length c6)) := (hK4.mono fun i _ hi => .inl (hin i (.inr hi))).trans hset fun i _ (e : i = ptr s) => .inl (hin i (.inl e))
        have hrG : ¬ G r := fun e => (hM3.inn s r (hin _ (.inr e))).2.2 rfl
        have hrp : r ≠ ptr s := fun e => (hM3.inn s r (hin _ (.inl e))).2.2 rfl
        obtain ⟨hD5, hG5, hK5⟩ := Dk.turned ok hM3 s ⟨y, x.l⟩ (ptr s) (fun k => k = ptr s ∨ G4 k) k5 (by rw [put_self hm1]; exact (hM3.mp.kp hK4 hrG).kp hset hrp)
          ⟨_, G4, hfb5, hB5, hnG4, fun k h => h, fun k hk => hk.elim (fun e => e ▸ hfb5.lt) (hB5.lt k)⟩
          (fun k hk => hk.elim (fun e => .inl (hin _ (.inl e))) fun e => (hG4 k e).imp (fun e => hin _ (.inr e)) fun e => ⟨e.1, by simpa using e.2⟩)
          (by have := ok.lasts s x hs; show x.l ≤ y.length; omega) (by rw [hs]; show D.used + y.length ≤ D.room + x.b.length; omega) (by rw [hs]; intro h; cases h) hn64
        have hl5 : ({ D with fs := tLay D.fs s ⟨y, x.l⟩ } : Dsk).left ≠ some 0 := fun e => by
          have e : D.left = some 0 := e
          unfold mayL at he
          rw [if_pos e] at he
          cases he
        have hbe : dAppend D s b = (({ D with fs := tLay D.fs s ⟨y, x.l⟩ } : Dsk).done, 0) := by rw [hb, hs, hy]; rfl
        refine call (done_spec g _ _ _ hD5 hl5) ?_
        rintro v w6 ⟨rfl, hD6, hk6⟩
        simp -dsimp [go_sem]
        rw [hbe]
        exact ⟨rfl, _, hD6, Gr.wide hG5 k03.size hk6.size, ((Nw.kp k03 F).trans hK5 fun _ _ h => h).trans hk6 fun i _ (e : i = g) => e ▸ hM.fg⟩
    | none =>
      have hm1 : Mf ptr D.fs s = none := by simp [Mf, hs]
      rw [hm1] at hlk
      have hmany := ok.many
      have hks : ∀ t, (Mf ptr D.fs t).isSome = true ↔ t ∈ keysA D.fs := fun t => by rw [← tLook_keys]; simp [Mf]
      have hnd : (keysA D.fs).Nodup := List.pairwise_map.2 (List.Pairwise.imp (R := fun x y : Nm × Fil => x.1 < y.1) (fun h e => nm_ne h e) ok.srt)
      have hlen := fun (ty : TypeId) w1 (h1 : Nw w2 w1) => len_mp (ty := ty) K hmt (hM.kp h1 fun _ _ h => h).mp hnd hks
      have hkl : (keysA D.fs).length = D.fs.length := by simp [keysA]
      rw [hkl] at hlen
      obtain ⟨m, hm⟩ : ∃ m, m = D.fs.length := ⟨_, rfl⟩
      rw [← hm] at hlen
      simp -dsimp [go_sem, g1, hlk]
      refine draw (.take 0 (.take 1 (.take 2 (.take 3 (.take 4 (.take 5 (.take 6 (.alt 7 (.take 8 (.take 9 (.take 10 (.take 11 (.take 12 (.take 13 (.take 14 (.take 15 (.take 16 (.take 17 (.take 18 (.take 19 (.take 20 (.take 21 .done)))))))))))))) .stop)))))))) (by kernel_rfl) (fun w1 => Nw w2 w1) ((Kp.refl _ _).drew) ?_
      simp -dsimp [go_sem, g0]
      refine ⟨fun w1 h1 => by simp [(hM.kp h1 fun _ _ h => h).blk.cell 0], ?_⟩
      refine call (used_spec g D F _ ((h.nw k2).nw ((Kp.refl _ w2).drew))) ?_
      rintro v w3 ⟨rfl, hk3⟩
      refine ⟨((Kp.refl _ w2).drew).nw hk3, ?_⟩
      have k3 : Nw w2 w3 := ((Kp.refl _ w2).drew).nw hk3
      have k03 := k2.nw k3
      have hM3 := hM.kp k3 fun _ _ h => h
      have g1' := hM3.blk.cell 1
      by_cases hbig : q < b.length
      · rw [if_pos (.inl (by omega))] at hb
        have hbig' : (q : Int) < (b.length : Int) := by omega
        simp -dsimp [go_sem, hsub, hbig, hbig']
        rw [hb]
        exact ⟨rfl, F, h.nw k03, fun k h => .inl h, Nw.kp k03 F⟩
      · have hbig' : ¬ (q : Int) < (b.length : Int) := by omega
        have hln := hlen 3 w3 k3
        by_cases h4 : 4096 ≤ m
        · rw [if_pos (.inr ⟨hs, by omega⟩)] at hb
          have h4' : (4096 : Int) ≤ (m : Int) := by omega
          simp -dsimp [go_sem, hsub, hbig, hbig', g1', hln, h4, h4']
          refine ⟨fun w1 h1 => by simp [(hM.kp h1 fun _ _ h => h).blk.cell 1], hlen _, ?_⟩
          rw [hb]
          exact ⟨rfl, F, h.nw k03, fun k h => .inl h, Nw.kp k03 F⟩
        · have h4' : ¬ (4096 : Int) ≤ (m : Int) := by omega
          rw [if_neg (fun h => h.elim (fun h => by omega) fun h => by omega)] at hb
          simp -dsimp [go_sem, hsub, hbig, hbig', g1', hln, h4, h4']
          refine ⟨fun w1 h1 => by simp [(hM.kp h1 fun _ _ h => h).blk.cell 1], hlen _, ?_⟩
          have kn : Nw w3 (w3.alloc (.cells #[.slice none 0 0, i64 0] 50)) := (Kp.refl _ _).alloc _
          have hfa : Blk (w3.alloc (.cells #[.slice none 0 0, i64 0] 50)) w3.heap.size 50 #[.slice none 0 0, i64 0] := Blk.new _ _ _
          have hMa := hM3.kp kn fun _ _ h => h
          have ga := hMa.blk.cell 1
          have hpF : ∀ k, F k → k < w3.heap.size := hM3.lt
          have hsz : (w3.alloc (.cells #[.slice none 0 0, i64 0] 50)).heap.size = w3.heap.size + 1 := by simp
          generalize w3.alloc (.cells #[.slice none 0 0, i64 0] 50) = wa at *
          obtain ⟨p, hp'⟩ : ∃ p, p = w3.heap.size := ⟨_, rfl⟩
          rw [← hp'] at hfa hpF hsz ⊢
          obtain ⟨wb, hup, hMb, hkb⟩ := update_mp K hmt hMa.mp s (.pointer (some ⟨p, 0, none⟩))
          have hpr : p ≠ r := fun e => by have := hpF r hM.fr; omega
          have hpg : p ≠ g := fun e => by have := hpF g hM.fg; omega
          have hfb := hfa.kp hkb hpr
          have f0 := hfb.cell 0
          have hfr := hfb.frozen 0
          simp -dsimp [go_sem, ga, hup, f0, hfr]
          refine bf_app (l := []) (F := fun _ => False) (Bf.nil _) ((ho2.nw (k3.nw kn)).kp hkb (fun a ha e => ?_)).rd (by simpa using hl) ?_
          · have h0 := hA2 a ha
            have h1 := h.lt r hM.fr
            have e : a.block = r := e
            simp at h0
            omega
          intro v4 w4 G4 hB4 hG4 hK4
          have hG4' : ∀ k, G4 k → wb.heap.size ≤ k ∧ k < w4.heap.size := fun k hk => (hG4 k hk).elim (fun h => h.elim) id
          have hpl := hfb.lt
          have hnG4 : ¬ G4 p := fun e => by have := hG4' p e; omega
          have hfb4 := hfb.kp hK4 fun h => h
          have hfr4 := hfb4.frozen 0
          have f4 := hfb4.cell 0
          rw [List.nil_append] at hB4
          obtain ⟨A6, c6, rfl, ho6, h61, h62⟩ := id hB4
          simp -dsimp [go_sem, hfr4, f4]
          have hset : Kp (At p) w4 (w4.setCell ⟨p, 0, none⟩ (.slice A6 b.length c6)) := (Kp.refl _ _).setCell_at _ _
          have hB5 := hB4.kp hset fun i hi (e : i = p) => hnG4 (e ▸ hi)
          have hfb5 := Blk.set0 hfb4 0 (.slice A6 b.length c6) rfl
          have k5 : Kp (fun k => Fs s k ∨ k = r) w3 (w4.setCell ⟨p, 0, none⟩ (.slice A6 b.length c6)) :=
            (((kn.kp fun k => Fs s k ∨ k = r).trans hkb fun i _ (e : i = r) => .inr e).trans hK4 fun i _ h => h.elim).trans hset fun i hi (e : i = p) => by omega
          have hsb := hkb.size
          have hs4 := hK4.size
          obtain ⟨hD5, hG5, hK5⟩ := Dk.turned ok hM3 s ⟨b, 0⟩ p (fun k => k = p ∨ G4 k) k5 ((hMb.kp hK4 fun h => h).kp hset fun e => hpr (e : r = p).symm)
            ⟨_, G4, hfb5, hB5, hnG4, fun k h => h, fun k hk => hk.elim (fun e => e ▸ hfb5.lt) (hB5.lt k)⟩
            (fun k hk => .inr (hk.elim (fun e => by subst e; exact ⟨by omega, by simp; omega⟩) fun e => by have := hG4' k e; exact ⟨by omega, by simp; omega⟩))
            (Nat.zero_le _) (by rw [hs]; show D.used + b.length ≤ D.room + 0; omega) (fun _ => by omega) hn64
          have hl5 : ({ D with fs := tLay D.fs s ⟨b, 0⟩ } : Dsk).left ≠ some 0 := fun e => by
            have e : D.left = some 0 := e
            unfold mayL at he
            rw [if_pos e] at he
            cases he
          have hbe : dAppend D s b = (({ D with fs := tLay D.fs s ⟨b, 0⟩ } : Dsk).done, 0) := by rw [hb, hs]; rfl
          refine call (done_spec g _ _ _ hD5 hl5) ?_
          rintro v w6 ⟨rfl, hD6, hk6⟩
          simp -dsimp [go_sem]
          rw [hbe]
          exact ⟨rfl, _, hD6, Gr.wide hG5 k03.size hk6.size, ((Nw.kp k03 F).trans hK5 fun _ _ h => h).trans hk6 fun i _ (e : i = g) => e ▸ hM.fg⟩
  · have h0' : ((e : Int) != 0) = true := by simp; omega
    rw [if_pos h0] at hb
    simp -dsimp [go_sem, h0']
    rw [hb]
    exact ⟨rfl, F, h.nw ka, fun k h => .inl h, ka.kp F⟩
end Go.Proofs.YthonmjgagblogaaGreat
