/-
  A store's plans walked: copies. By the session itself. A ledger: Write, Drop walked. By the session itself. A ledger: Drop walked; a ledger in a law. By the session itself. KeepLast walked: what is there is what was saved last with OK, or what the save that erred was to write. By the session itself. Records one behind the other, whole and torn: plain laws. By the session itself.
-/
import Derived.Test.YtipdndmfngpbfaaGreatDoorQ21
import Derived.Test.YtipdndmfngpbfaaGreatDoorQ19
import Derived.Test.YtipdndmfngpbfaaGreatDoorQ16
import Derived.Test.YtipdndmfngpbfaaGreatDoorQ15

namespace Go.Proofs.YtipdndmfngpbfaaGreatDoor
set_option linter.unusedSimpArgs false
set_option linter.unusedVariables false
set_option maxRecDepth 100000
set_option maxHeartbeats 2000000
open Go.Vc Go.RowKit

theorem SttA.less {w : World} {t : Nat} {T : Stt} {F V V' : Nat → Prop} (h : SttA w t T F V) (hV : ∀ i, V' i → V i) (hF : ∀ i, F i → V' i) : SttA w t T F V' := by
  obtain ⟨r, ptr, rb, vb, Fs, h⟩ := h
  refine ⟨r, ptr, rb, vb, Fs, h.blk, h.mp, fun s u hu => ?_, h.apart, h.inn, h.ne, h.ft, h.fr, h.lt, hF⟩
  obtain ⟨h1, h2, h3, h4⟩ := h.us s u hu
  exact ⟨⟨h1.blk, h1.mp, fun n b hb => (h1.bx n b hb).ofl fun i hi => .inl (hV i hi)⟩, h2, h3, h4⟩
/-- The plan's own cell turns: nothing of it matters. -/
theorem Does.put {w w' : World} {f : Value} {t z : Nat} {T : Stt} {F V : Nat → Prop} (h : Does w f t T F (fun i => V i ∨ i = z)) (k : Kp (At z) w w') (hz : ¬ F z) (hVz : ¬ V z) (hzl : z < w.heap.size) : Does w' f t T F V := by
  obtain ⟨fid, caps, rfl, hgo, h⟩ := h
  refine ⟨fid, caps, rfl, hgo, fun S V' w2 k2 hS hG hV => ?_⟩
  have hzw : z < w'.heap.size := Nat.lt_of_lt_of_le hzl k.size
  have hz2 : z < w2.heap.size := Nat.lt_of_lt_of_le hzw k2.size
  refine (h (fun i => S i ∨ i = z) (fun i => V' i ∨ i = z) w2 ((k.mono fun i _ e => .inr e).trans (k2.mono fun i _ e => .inl e) fun _ _ h => h) (fun i hi => hi.elim (fun e => ⟨.inl (hS i e).1, (hS i e).2⟩) fun e => ⟨.inr e, e ▸ hz⟩) (fun i hi => ?_) (fun i hi => hi.imp (hV i) id)).mono ?_
  · rcases hi with hi | rfl
    · rcases hG i hi with e | e
      · exact .inl (.inl e)
      · exact .inr ⟨Nat.le_trans k.size e.1, e.2⟩
    · exact .inl (.inr rfl)
  · rintro v w3 ⟨rfl, F1, V1, h1, h2, h3, h4, h5⟩
    have hV'z : ¬ V' z := fun e => (hG z e).elim hVz fun e => by omega
    have hF1z : ¬ F1 z := fun e => (h2 z e).elim hz fun e => by omega
    refine ⟨rfl, F1, fun i => V1 i ∧ i ≠ z, h1.less (fun i hi => hi.1) (fun i hi => ?_), h2, fun i hi => ?_, fun i hi => ⟨h4 i (.inl hi), fun e => hV'z (e ▸ hi)⟩, h5⟩
    · obtain ⟨_, _, _, _, _, hM⟩ := h1
      exact ⟨hM.fv i hi, fun e => hF1z (e ▸ hi)⟩
    · rcases h3 i hi.1 with (e | e) | e
      · exact .inl e
      · exact absurd e hi.2
      · exact .inr e
theorem PlanR.put {w w' : World} {v : Value} {t z : Nat} {P : Int × Int × Stt} {F V : Nat → Prop} (h : PlanR w v t P F (fun i => V i ∨ i = z)) (k : Kp (At z) w w') (hz : ¬ F z) (hVz : ¬ V z) (hzl : z < w.heap.size) : PlanR w' v t P F V := by
  rcases h with h | ⟨h1, f, h2, h3⟩
  · exact .inl h
  · exact .inr ⟨h1, f, h2, h3.put k hz hVz hzl⟩
theorem PlanR.three {w : World} {v : Value} {t : Nat} {P : Int × Int × Stt} {F V : Nat → Prop} (h : PlanR w v t P F V) : ∃ f n e, v = .agg #[f, i64 n, i64 e] ∧ (f = .nilFunc ∨ ∃ fid caps, f = .func (.func fid) #[] caps) := by
  rcases h with ⟨_, rfl⟩ | ⟨_, f, rfl, fid, caps, rfl, _⟩
  · exact ⟨_, _, _, rfl, .inl rfl⟩
  · exact ⟨_, _, _, rfl, .inr ⟨_, _, rfl⟩⟩
/-- A wider V. -/
theorem SttM.wide {w w' : World} {t r : Nat} {T : Stt} {F V : Nat → Prop} {ptr rb : Nm → Nat} {vb : Nm → Nm → Value} {Fs : Nm → Nat → Prop} (h : SttM w t T F V r ptr rb vb Fs) (n : Nw w w') {z : Nat} (hz : w.heap.size ≤ z) (hz2 : z < w'.heap.size) : SttM w' t T F (fun i => V i ∨ i = z) r ptr rb vb Fs :=
  h.step n (fun _ h => h.elim) (fun i hi => hi.imp id fun e => by subst e; exact ⟨hz, hz2⟩) fun i hi => .inl hi
theorem RC.wide {w w' : World} {v : Value} {c : Chg} {V : Nat → Prop} (h : RC w v c V) (n : Nw w w') {z : Nat} (hz : w.heap.size ≤ z) : RC w' v c (fun i => V i ∨ i = z) := by
  obtain ⟨A, ca, B, cb, h1, h2, h3, h4, h5, h6, h7⟩ := h
  refine ⟨A, ca, B, cb, h1, h2, h3, h4.nw n, fun a ha hx hs => ?_, h6.nw n, fun a ha hx hs => ?_⟩
  · rcases hs with hs | hs
    · exact h5 a ha hx hs
    · exact h4.ofl (S := fun i => w.heap.size ≤ i) (fun i hi => hi) a ha hx (by show w.heap.size ≤ a.block; omega)
  · rcases hs with hs | hs
    · exact h7 a ha hx hs
    · exact h6.ofl (S := fun i => w.heap.size ≤ i) (fun i hi => hi) a ha hx (by show w.heap.size ≤ a.block; omega)
theorem copies_spec {t r : Nat} {T : Stt} {F V : Nat → Prop} {ptr rb : Nm → Nat} {vb : Nm → Nm → Value} {Fs : Nm → Nat → Prop} {u : Usr} {b : Bx} (c : Chg) (v bv : Value) (w : World) (h : SttM w t T F V r ptr rb vb Fs) (ok : T.Ok) (hVl : ∀ i, V i → i < w.heap.size) (hu : tLook T.us c.user = some u) (hc : RC w v c V) (hcl : c.uids.length ≤ 24) (hbv : RB w bv b V) (hbi : isB b = true) :
    Cal Tryz.prog 102 #[v, .pointer (some ⟨ptr c.user, 0, none⟩), bv] w fun v w' => PlanR w' v t (plCopy T c u b) F V ∧ Nw w w' := by
  have hRB := hbv
  obtain ⟨A, ca, B, cb, rfl, hca, hcb, hrA, hoA, hrB, hoB⟩ := hc
  obtain ⟨Z, zc, q1, rfl, hq1, hc1, hr1, ho1, hbd1⟩ := hbv
  have hUO := (ok.us _ _ hu).2
  have hI := IsB.of hbi
  have hql : q1.length = b.L.length := by rw [← hq1, List.length_map]
  refine enter Tryz.mixed Tryz.func102 rfl (by kernel_rfl) ?_
  simp -dsimp [go_sem]
  obtain ⟨y, q, z, hy', hq', hz', hy, hq, hz, hsz, n0⟩ := three_new w 25 52 112 (chV c A ca B cb) #[.string b.name, i64 b.val, i64 b.next, .slice Z b.L.length zc] #[.nilFunc, i64 0, i64 0]
  rw [← hy', ← hq', ← hz']
  generalize ((w.alloc (.cells (chV c A ca B cb) 25)).alloc (.cells #[.string b.name, i64 b.val, i64 b.next, .slice Z b.L.length zc] 52)).alloc (.cells #[.nilFunc, i64 0, i64 0] 112) = wa at *
  have hM := h.nw n0
  obtain ⟨hU, h2, h3, h4⟩ := hM.us _ _ hu
  have y4 := hy.cell 4
  have p1 := hU.blk.cell 1
  have hlz : ∀ wz, Nw wa wz → (Instr.lookup 118 (.map (some (rb c.user))) (str c.to) true).run Tryz.prog wz = .ok (.tuple #[(Mb (vb c.user) u.bx c.to).getD (.agg #[.string ⟨#[]⟩, i64 0, i64 0, .slice none 0 0]), .bool (Mb (vb c.user) u.bx c.to).isSome]) wz := fun wz hk => lookup_mp KL hmb zeroBox (hU.mp.kp hk fun h => h) c.to true
  have kdr : Nw wa wa.drew := (Kp.refl _ _).drew
  have hlk := hlz wa.drew kdr
  refine draw (.take 0 (.take 1 (.take 2 (.take 3 (.take 4 (.take 5 (.take 6 (.take 7 (.take 8 (.take 9 (.alt 10 (.alt 11 (.take 12 .done) .stop) .stop)))))))))))  (by kernel_rfl) (fun wz => Nw wa wz) kdr ?_
  have kf : ∀ cs, Nw wa (wa.alloc (.cells cs 52)).drew := fun cs => ((Kp.refl _ wa).alloc _).drew
  have ka : ∀ cs, Nw wa (wa.alloc (.cells cs 52)) := fun cs => (Kp.refl _ wa).alloc _
  cases hb : tLook u.bx c.to with
  | none =>
    have hpl : plCopy T c u b = (7, 0, T) := by unfold plCopy; rw [hb]
    rw [show Mb (vb c.user) u.bx c.to = none by simp [Mb, hb]] at hlz hlk
    simp -dsimp [go_sem, y4, p1, hlk]
    refine ⟨fun wz hz => by simp [hz.cell_some p1 fun h => h], fun wz hz => by simp [hz.cell_some y4 fun h => h], fun wz hk => by simp [hlz wz hk], kf _, ?_⟩
    refine call (refused_spec 7 _) ?_
    rintro v w1 ⟨rfl, k1⟩
    have n1 := Kp.nw (n0.nw (kf _)) k1
    have hz1 := Blk.nw (hz.nw (kf _)) k1
    have z0c := hz1.cell 0
    have z1c := hz1.cell 1
    have z2c := hz1.cell 2
    have z0f := hz1.frozen 0
    have z1f := hz1.frozen 1
    have z2f := hz1.frozen 2
    simp -dsimp [go_sem, z0c, z1c, z2c, z0f, z1f, z2f]
    rw [hpl]
    exact ⟨.inl ⟨by simp, rfl⟩, n1.at_ (set3 w1 z _ _ _) fun k (e : k = z) => by omega⟩
  | some d =>
    have hpl : plCopy T c u b = plKeep T c.user u c.to (copyL c.uids b.L d 0).2.2 (copyL c.uids b.L d 0).2.1 (copyL c.uids b.L d 0).1 := by unfold plCopy; rw [hb]
    have hD := hUO.bx _ _ hb
    have hRd := hU.bx _ _ hb
    obtain ⟨X, xc, hv⟩ := hRd.open_
    rw [hv] at hRd
    rw [show Mb (vb c.user) u.bx c.to = some (.agg #[.string d.name, i64 d.val, i64 d.next, .slice X d.L.length xc]) by simp [Mb, hb, hv]] at hlz hlk
    have q3 := fun cs => (hq.nw (ka cs)).cell 3
    obtain ⟨N, hN⟩ : ∃ N, N = b.L.length := ⟨_, rfl⟩
    rw [← hN] at q3
    have hg0 := Blk.new wa 52 #[.string d.name, i64 d.val, i64 d.next, .slice X d.L.length xc]
    obtain ⟨g, hg⟩ : ∃ g, g = wa.heap.size := ⟨_, rfl⟩
    have hgs : (wa.alloc (.cells #[.string d.name, i64 d.val, i64 d.next, .slice X d.L.length xc] 52)).drew.heap.size = g + 1 := by simp [hg]
    simp -dsimp [go_sem, y4, p1, hlk, q3]
    refine ⟨fun wz hz => by simp [hz.cell_some p1 fun h => h], fun wz hz => by simp [hz.cell_some y4 fun h => h], fun wz hk => by simp [hlz wz hk], kf _, kf _, ?_⟩
    have hgd := hg0.nw ((Kp.refl (fun _ => False) _).drew)
    have n1 := n0.nw (kf #[.string d.name, i64 d.val, i64 d.next, .slice X d.L.length xc])
    have hyb := hy.nw (kf #[.string d.name, i64 d.val, i64 d.next, .slice X d.L.length xc])
    have hqb := hq.nw (kf #[.string d.name, i64 d.val, i64 d.next, .slice X d.L.length xc])
    have hzb := hz.nw (kf #[.string d.name, i64 d.val, i64 d.next, .slice X d.L.length xc])
    have nab := kf #[.string d.name, i64 d.val, i64 d.next, .slice X d.L.length xc]
    rw [← hg] at hgd ⊢
    generalize (wa.alloc (.cells #[.string d.name, i64 d.val, i64 d.next, .slice X d.L.length xc] 52)).drew = wb at *
    have hgw : w.heap.size ≤ g := by omega
    have hRB0 : RB wb (.agg #[.string d.name, i64 d.val, i64 d.next, .slice X d.L.length xc]) d (fun i => V i ∨ i = g ∨ i = z) := by
      have h0 := (h.us _ _ hu).1.bx _ _ hb
      rw [hv] at h0
      exact (h0.ofl (T := fun i => V i ∨ i = g ∨ i = z) fun i hi => hi.imp id fun e => by omega).nw n1
    have hgl := hgd.lt
    refine loop [9, 10, 12, 29, 30, 31, 32, 33, 34, 35, 36, 37, 38, 39, 40, 41, 42, 43, 44, 45, 46, 47, 48, 49, 50, 51, 52, 53, 54, 55, 56] (by kernel_rfl)
      (fun f w' => Box2 (fun a e w' => ∃ (i n : Nat) (d' : Bx) (vL : Value), a = i64 i ∧ i ≤ N ∧ e = i64 n ∧ n ≤ i ∧ Blk w' g 52 #[.string d'.name, i64 d'.val, i64 d'.next, vL] ∧ RB w' (.agg #[.string d'.name, i64 d'.val, i64 d'.next, vL]) d' (fun i => V i ∨ i = g ∨ i = z) ∧ isB d' = true ∧ d'.name = ⟨c.to.toArray⟩ ∧ copyL c.uids b.L d 0 = copyL c.uids (b.L.drop i) d' n ∧ Kp (At g) wb w') (f 29) (f 9) w') (fun f _ => N - (intOf (f 29)).toNat)
      ⟨0, 0, d, _, rfl, Nat.zero_le _, rfl, Nat.le_refl _, hgd, hRB0, hD.2, hD.1, rfl, Kp.refl _ _⟩ ?_
    rintro f w5 ⟨i, n, d', vL, f29, hi, f9, hni, hg5, hR5, hi5, hn5, hE, hk5⟩
    have hN24 : N ≤ 24 := by have := hI.len; omega
    by_cases hlt : i < N
    · have hltL : i < b.L.length := by omega
      have hi1 : IntKind.i64.wrap ((i : Int) + 1) = ((i + 1 : Nat) : Int) := by rw [w64 (by omega) (by omega)]; omega
      have hn1 : IntKind.i64.wrap ((n : Int) + 1) = ((n + 1 : Nat) : Int) := by rw [w64 (by omega) (by omega)]; omega
      obtain ⟨i1, hi1'⟩ : ∃ i1, i1 = i + 1 := ⟨_, rfl⟩
      obtain ⟨m1, hm1'⟩ : ∃ m1, m1 = n + 1 := ⟨_, rfl⟩
      rw [← hi1'] at hi1
      rw [← hm1'] at hn1
      have hltq : i < q1.length := by omega
      have n5 : Nw w w5 := n1.at_ hk5 fun k (e : k = g) => by omega
      obtain ⟨ga, o, rfl, e0, e1, e2, e3⟩ := msg_at (hr1.nw n5) hltq
      have hqi : q1[i].1 = b.L[i] := by simp only [← hq1, List.getElem_map]
      have hbq := hbd1 _ (List.getElem_mem hltq)
      have hdr : b.L.drop i = b.L[i] :: b.L.drop (i + 1) := List.drop_eq_getElem_cons hltL
      rw [hdr, ← hi1'] at hE
      have hbm := (hI.all _ (List.getElem_mem hltL)).2.2.2.2
      rw [hqi] at e0 e1 e2 hbq
      generalize b.L[i] = m at *
      generalize q1[i].2 = mv at *
      obtain ⟨Bm, dm, rfl, hrm, hom, hdm⟩ := hbq
      have kam : Nw w5 (w5.alloc (.cells #[i64 m.uid, i64 m.flags, i64 m.date, .slice Bm m.body.length dm] 58)) := (Kp.refl _ _).alloc _
      have hm0 := Blk.new w5 58 #[i64 m.uid, i64 m.flags, i64 m.date, .slice Bm m.body.length dm]
      have hy5 := (hyb.kp hk5 fun (e : y = g) => by omega).nw kam
      have y55 := hy5.cell 5
      obtain ⟨x, hx⟩ : ∃ x, x = w5.heap.size := ⟨_, rfl⟩
      simp -dsimp [go_sem, f29, hlt, e0, e1, e2, e3, y55]
      rw [← hx] at hm0 ⊢
      have hg6 := hg5.nw kam
      have hR6 := hR5.nw kam
      have hk6 : Kp (At g) wb (w5.alloc (.cells #[i64 m.uid, i64 m.flags, i64 m.date, .slice Bm m.body.length dm] 58)) := hk5.nw kam
      have n6 := n5.nw kam
      have hgs6 : g < (w5.alloc (.cells #[i64 m.uid, i64 m.flags, i64 m.date, .slice Bm m.body.length dm] 58)).heap.size := hg6.lt
      generalize w5.alloc (.cells #[i64 m.uid, i64 m.flags, i64 m.date, .slice Bm m.body.length dm] 58) = w6 at *
      refine call (icontains_spec c.uids m.uid A ca w6 (hrA.nw n6) (by omega)) ?_
      rintro v w6' ⟨rfl, e6⟩
      obtain rfl := e6.symm
      by_cases hmem : m.uid ∈ c.uids
      · have g0 := hg6.cell 0
        have g1 := hg6.cell 1
        have g2 := hg6.cell 2
        have g3 := hg6.cell 3
        have m1c := hm0.cell 1
        have m2c := hm0.cell 2
        have m3c := hm0.cell 3
        have hI5 := IsB.of hi5
        obtain ⟨A5, c5, hv5⟩ := hR6.open_
        injection hv5 with hv5
        injection hv5 with hv5
        simp at hv5
        subst hv5
        simp -dsimp [go_sem, hmem, g0, g1, g2, g3, m1c, m2c, m3c]
        refine call (add_spec _ d' _ m.flags m.date m.body Bm dm w6 hR6 (by have := hI5.len; omega) (fun k hk => by have := (hI5.all k hk).2.2.2.2; omega) (hrm.nw n6) (by have := hI5.next; omega)) ?_
        rintro v w7 ⟨⟨bv, rfl, hO⟩, hk7⟩
        have hname := addB_name d' m.flags m.date m.body
        have hadd := hI5.add m.flags m.date m.body
        have hE2 : copyL c.uids b.L d 0 = if (addB d' m.flags m.date m.body).2.2 ≠ 0 then ((addB d' m.flags m.date m.body).2.2, 0, d') else copyL c.uids (b.L.drop i1) (addB d' m.flags m.date m.body).1 (n + 1) := by rw [hE]; conv => lhs; unfold copyL; rw [if_pos hmem]
        obtain ⟨R, hR⟩ : ∃ R, R = addB d' m.flags m.date m.body := ⟨_, rfl⟩
        rw [← hR] at hO hname hadd hE2 ⊢
        obtain ⟨R1, R2, R3⟩ := R
        simp only at hO hname hadd hE2 ⊢
        have hR1B : isB R1 = true := hadd.is (by rw [hname.1]; exact isB_name hi5)
        obtain ⟨A7, c7, rfl⟩ := hO.open_
        have hg7 := hg6.nw hk7
        have g0 := hg7.cell 0
        have g1 := hg7.cell 1
        have g2 := hg7.cell 2
        have g3 := hg7.cell 3
        have gf0 := hg7.frozen 0
        have gf1 := hg7.frozen 1
        have gf2 := hg7.frozen 2
        have gf3 := hg7.frozen 3
        simp -dsimp [go_sem, g0, g1, g2, g3, gf0, gf1, gf2, gf3]
        have k78 := kp_set4 w7 g (.string R1.name) (i64 R1.val) (i64 R1.next) (.slice A7 R1.L.length c7)
        have hg8 := blk_set4 hg7 (.string R1.name) (i64 R1.val) (i64 R1.next) (.slice A7 R1.L.length c7)
        generalize (((w7.setCell ⟨g, 0, none⟩ (.string R1.name)).setCell ⟨g, 1, none⟩ (i64 R1.val)).setCell ⟨g, 2, none⟩ (i64 R1.next)).setCell ⟨g, 3, none⟩ (.slice A7 R1.L.length c7) = w8 at *
        have hk8 : Kp (At g) wb w8 := (hk6.nw hk7).trans k78 fun _ _ h => h
        have n8 : Nw w w8 := n1.at_ hk8 fun k (e : k = g) => by omega
        by_cases he : R3 = 0
        · subst he
          rw [if_neg (by simp)] at hE2
          have hO8 : OB w8 (.agg #[.string R1.name, i64 R1.val, i64 R1.next, .slice A7 R1.L.length c7]) R1 w6.heap.size := hO.kp k78 fun k hk _ (e : k = g) => by omega
          have hR8 := hO8.rb.ofl (T := fun i => V i ∨ i = g ∨ i = z) fun i hi => .inl (hi.elim (fun e => by have := hVl i e; have := n6.size; show i < w6.heap.size; omega) fun e => by show i < w6.heap.size; omega)
          simp -dsimp [go_sem, f9, hn1, f29, hi1]
          exact ⟨⟨i1, m1, R1, _, rfl, by omega, rfl, by omega, hg8, hR8, hR1B, hname.1.trans hn5, by rw [hm1']; exact hE2, hk8⟩, by simp [intOf]; omega⟩
        · rw [if_pos he] at hE2
          have hne : (R3 != 0) = true := by simpa using he
          simp -dsimp [go_sem, hne]
          refine call (refused_spec R3 _) ?_
          rintro v w9 ⟨rfl, k9⟩
          have n9 := n8.nw k9
          have hz9 := (hzb.kp hk8 fun (e : z = g) => by omega).nw k9
          have z0c := hz9.cell 0
          have z1c := hz9.cell 1
          have z2c := hz9.cell 2
          have z0f := hz9.frozen 0
          have z1f := hz9.frozen 1
          have z2f := hz9.frozen 2
          simp -dsimp [go_sem, z0c, z1c, z2c, z0f, z1f, z2f]
          rw [hpl, hE2]
          refine ⟨.inl ⟨?_, ?_⟩, n9.at_ (set3 w9 z _ _ _) fun k (e : k = z) => by omega⟩
          · unfold plKeep; rw [if_pos he]; exact he
          · unfold plKeep; rw [if_pos he]
      · have hE1 : copyL c.uids b.L d 0 = copyL c.uids (b.L.drop i1) d' n := by rw [hE]; conv => lhs; unfold copyL; rw [if_neg hmem]
        simp -dsimp [go_sem, hmem, f29, hi1]
        exact ⟨⟨i1, n, d', vL, rfl, by omega, f9, by omega, hg6, hR6, hi5, hn5, hE1, hk6⟩, by simp [intOf]; omega⟩
    · obtain rfl : i = N := by omega
      have n5 : Nw w w5 := n1.at_ hk5 fun k (e : k = g) => by omega
      have g0 := hg5.cell 0
      have g1 := hg5.cell 1
      have g2 := hg5.cell 2
      have g3 := hg5.cell 3
      rw [List.drop_eq_nil_of_le (by omega)] at hE
      have hE : copyL c.uids b.L d 0 = (0, n, d') := hE
      rw [hE] at hpl
      simp -dsimp [go_sem, f29, hlt, f9, g0, g1, g2, g3]
      have hz5 := hzb.kp hk5 fun (e : z = g) => by omega
      have hzl := hz5.lt
      refine call (keeps_spec w5 _ (h.wide n5 (z := z) (by omega) hzl) (fun i hi => hi.elim (fun e => Nat.lt_of_lt_of_le (hVl i e) n5.size) fun e => e ▸ hzl) hu hn5 (hR5.ofl (T := fun i => V i ∨ i = z) fun i hi => ?_) (n : Int) 0) ?_
      · exact .inl (hi.imp id .inr)
      · rintro v w6 ⟨hP, k6⟩
        have hz6 := hz5.nw k6
        have n6 := n5.nw k6
        have hzF : ¬ F z := fun e => by have := hVl _ (h.fv _ e); omega
        have hzV : ¬ V z := fun e => by have := hVl _ e; omega
        have z0c := hz6.cell 0
        have z1c := hz6.cell 1
        have z2c := hz6.cell 2
        have z0f := hz6.frozen 0
        have z1f := hz6.frozen 1
        have z2f := hz6.frozen 2
        obtain ⟨pf, pn, pe, rfl, hpf⟩ := hP.three
        rw [hpl]
        rcases hpf with rfl | ⟨fid, caps, rfl⟩
        · simp -dsimp [go_sem, z0c, z1c, z2c, z0f, z1f, z2f]
          exact ⟨hP.put (set3 w6 z _ _ _) hzF hzV hz6.lt, n6.at_ (set3 w6 z _ _ _) fun k (e : k = z) => by omega⟩
        · simp -dsimp [go_sem, z0c, z1c, z2c, z0f, z1f, z2f]
          exact ⟨hP.put (set3 w6 z _ _ _) hzF hzV hz6.lt, n6.at_ (set3 w6 z _ _ _) fun k (e : k = z) => by omega⟩
end Go.Proofs.YtipdndmfngpbfaaGreatDoor

namespace Go.Proofs.YtipdndmfngpbfaaGreatDoor
set_option linter.unusedSimpArgs false
set_option linter.unusedVariables false
set_option maxRecDepth 100000
set_option maxHeartbeats 2000000
open Go.Vc Go.RowKit

theorem Lg.clear {w : World} {l g : Nat} {p : Nm} {L : Led} {G V : Nat → Prop} (h : Lg w l g p L G V) : Lg (w.setCell ⟨l, 4, none⟩ (.slice none 0 0)) l g p { L with ents := [] } G V ∧ Kp (At l) w (w.setCell ⟨l, 4, none⟩ (.slice none 0 0)) := by
  obtain ⟨B, d, A, c, vs, hb, hr, ho, hd, hA, hv, hAl, h1, h2, h3⟩ := h
  have hVl : V l := h2 _ (h1 _ (.inl rfl))
  have ks : Kp (At l) w (w.setCell ⟨l, 4, none⟩ (.slice none 0 0)) := (Kp.refl _ _).setCell_at _ _
  refine ⟨⟨B, d, none, 0, [], by simpa using hb.set 4 (.slice none 0 0), hr.kp ks (fun a ha hx (e : a.block = l) => ho a ha hx (e ▸ hVl)), ho, hd, Ow.nil _ _ _, RV.nil _ _, by simp [Off], fun k hk => hk.elim (fun e => h1 k (.inl e)) fun e => e.elim, h2, fun k hk => Nat.lt_of_lt_of_le (h3 k hk) ks.size⟩, ks⟩
theorem lWrite_ok {L : Led} (ok : L.Ok) (D : Dsk) (p : Nm) (n : Int) (b : List UInt8) : Led.Ok (lWrite D p L n b).2.1 := by
  unfold lWrite
  split
  · exact ok
  · split
    · exact ok
    · split
      · exact ok
      · rename_i h1 h2 h3
        unfold wrL
        split
        · exact ⟨ok.last, ok.data, ok.ents⟩
        · exact ⟨by simp; omega, by simp only; omega, by simp⟩

theorem lwrite_spec (l g : Nat) (p : Nm) (D : Dsk) (L : Led) (F G V : Nat → Prop) (n : Int) (b : List UInt8) (X : Option Addr) (x : Nat) (w : World) (h : LS w l g p D L F G V) (hp : p.length ≤ 20) (ok : L.Ok) (hr : Rd w X (b.map u8)) (hX : Ofl X (b.map u8) V) (hx : b.length ≤ x) (hb : b.length ≤ 140737488355328) :
    Cal Tryz.prog 110 #[.pointer (some ⟨l, 0, none⟩), i64 n, .slice X b.length x] w fun v w' => v = i64 (lWrite D p L n b).2.2 ∧ ChR w w' l g p (lWrite D p L n b).1 (lWrite D p L n b).2.1 F G V := by
  have e0 : lWrite D p L n b = if L.dead then (D, L, 9) else if n < L.last ∨ 1099511627776 < n then (D, L, 1) else if 524288 < b.length then (D, L, 5) else
    wrL L (wrS (kSave D (imgN p) (numB n.toNat ++ rowB b)) (logN p)) n.toNat b := rfl
  have c5 := h.lg.c5
  have hlN : (logN p).length = p.length + 4 := by simp [logN]
  have hsN : (logN p).length ≤ 9223372036854775807 := by omega
  have hok := ok.last
  have hlast : L.last = L.base + L.ents.length := rfl
  refine enter Tryz.mixed Tryz.func110 rfl (by kernel_rfl) ?_
  cases hd : L.dead with
  | true =>
    rw [hd] at c5
    rw [hd, if_pos rfl] at e0
    rw [e0]
    simp -dsimp [go_sem, c5]
    exact ⟨F, G, V, h, Ch.nw (Kp.refl _ _)⟩
  | false =>
    rw [hd] at c5
    rw [hd, if_neg (by simp)] at e0
    simp -dsimp [go_sem, c5]
    refine call (last_spec l g p L G V w h.lg ok) ?_
    rintro v w1 ⟨rfl, hk1⟩
    by_cases hlo : n < L.last
    · rw [if_pos (.inl hlo)] at e0
      rw [e0]
      simp -dsimp [go_sem, hlo]
      exact ⟨F, G, V, h.nw hk1, Ch.nw hk1⟩
    by_cases hhi : 1099511627776 < n
    · rw [if_pos (.inr hhi)] at e0
      rw [e0]
      simp -dsimp [go_sem, hlo, hhi]
      exact ⟨F, G, V, h.nw hk1, Ch.nw hk1⟩
    rw [if_neg (by omega)] at e0
    by_cases hbig : 524288 < b.length
    · rw [if_pos hbig] at e0
      have hbig' : (524288 : Int) < (b.length : Int) := by omega
      rw [e0]
      simp -dsimp [go_sem, hlo, hhi, hbig, hbig']
      exact ⟨F, G, V, h.nw hk1, Ch.nw hk1⟩
    rw [if_neg hbig] at e0
    have hbig' : ¬ (524288 : Int) < (b.length : Int) := by omega
    obtain ⟨N, rfl⟩ : ∃ N : Nat, n = N := ⟨n.toNat, by omega⟩
    rw [Int.toNat_natCast] at e0
    have hlo' : ¬ N < L.last := by omega
    have hhi' : ¬ 1099511627776 < N := by omega
    simp -dsimp [go_sem, hlo, hhi, hlo', hhi', hbig, hbig']
    have kW : Nw w1 (w1.alloc (.cells #[.slice none 0 0] 85)) := (Kp.refl _ _).alloc _
    have hW0 := Wr.zero w1
    obtain ⟨q, hq⟩ : ∃ q, q = w1.heap.size := ⟨_, rfl⟩
    rw [← hq] at hW0 ⊢
    have n3 := hk1.nw kW
    have hqw : w.heap.size ≤ q := by rw [hq]; exact hk1.size
    have hw3 : (w1.alloc (.cells #[.slice none 0 0] 85)).heap.size = q + 1 := by simp [hq]
    generalize w1.alloc (.cells #[.slice none 0 0] 85) = w3 at *
    have kb : Nw w3 (w3.alloc (.cells #[i64 N] 3)) := (Kp.refl _ _).alloc _
    have hW3b := hW0.kp_ kb fun _ _ h => h
    refine call (wNums_spec q [] [(N : Int)] (At q) (some ⟨q + 1, 0, none⟩) 1 _ hW3b (Rd.fresh hw3.symm rfl) (fun a ha _ (e : a.block = q) => by cases ha; have e : q + 1 = q := e; omega) (by simp)) ?_
    rintro v w4 ⟨rfl, F4, hW4, hG4, hK4⟩
    have n4 : Nw w w4 := (n3.nw kb).at_ hK4 fun k (e : k = q) => by omega
    have hF4 : ∀ k, F4 k → w.heap.size ≤ k := fun k hk => by
      rcases hG4 k hk with e | e
      · have e : k = q := e
        omega
      · exact Nat.le_trans (n3.nw kb).size e.1
    simp -dsimp [go_sem]
    have kc : Nw w4 (w4.alloc (.cells #[.slice X b.length x] 23)) := (Kp.refl _ _).alloc _
    have hW4b := hW4.kp_ kc fun _ _ h => h
    have hX4 : Ofl X (b.map u8) F4 := hr.ofl hF4
    refine call (wBytes_spec q _ [b] F4 (some ⟨w4.heap.size, 0, none⟩) 1 _ hW4b (brs_one1 (Blk.fresh rfl) (fun e => by have := hW4.lt_ _ e; omega) (hr.nw (n4.nw kc)) hX4 hx) (by
      have := numsB_len [(N : Int)]
      simp only [List.length_append, List.length_nil, List.length_singleton] at this ⊢
      simp [load]; omega)) ?_
    rintro v w5 ⟨rfl, F5, hW5, hG5, hK5⟩
    have n5 : Nw w w5 := (n4.nw kc).at_ hK5 hF4
    have hm62 : N ≤ 4611686018427387904 := by omega
    rw [entry_eq N b hm62] at hW5
    have hcl := entry_len N b hm62 (by omega)
    obtain ⟨C, hC⟩ : ∃ C, C = numB N ++ rowB b := ⟨_, rfl⟩
    rw [← hC] at hW5 hcl e0
    have h5 := h.nw n5
    simp -dsimp [go_sem]
    have q0 := LS.c0' h5
    have kq : Kp F w5 (World.drew w5) := (Kp.refl _ _).drew
    have kqN : Nw w5 (World.drew w5) := (Kp.refl _ _).drew
    have hqF := LS.lF h5
    have q0d := kq.cell_some q0 hqF
    have q1d := kqN.cell_some (LS.c1' h5) fun h => h
    refine draw (.take 0 (.take 1 (.take 2 (.take 3 (.take 4 (.alt 5 (.alt 6 (.alt 7 (.alt 8 (.take 9 .done) .stop) .stop) .stop) .stop)))))) (by kernel_rfl) (fun wz => Kp F w5 wz) kq ?_
    simp -dsimp [go_sem, q0d]
    refine ⟨fun wz hz => by simp [hz.cell_some q0 hqF], ?_⟩
    refine call (imgname_spec l p w5.drew q1d hp) ?_
    rintro v wq ⟨rfl, rfl⟩
    refine ⟨kq, ?_⟩
    simp -dsimp [go_sem]
    refine call (wOut_spec q C F5 _ (hW5.kp_ kqN fun _ _ h => h) (by omega)) ?_
    rintro v w6 ⟨hB6, hk6⟩
    obtain ⟨A6, c6, rfl, ho6, hA6⟩ := id hB6
    have n56 := kqN.nw hk6
    refine ⟨Nw.kp n56 _, ?_⟩
    simp -dsimp [go_sem]
    have kd : Nw w6 (w6.alloc (.cells #[.slice A6 C.length c6] 23)) := (Kp.refl _ _).alloc _
    have n57 := n56.nw kd
    refine ⟨Nw.kp n57 _, ?_⟩
    have hsv := ksave_spec (imgN p) [C] (some ⟨w6.heap.size, 0, none⟩) 1 g D F (fun _ => False) (w6.alloc (.cells #[.slice A6 C.length c6] 23)) (h5.dk.nw n57) (brs_one1 (Blk.fresh rfl) (fun h => h) (ho6.nw kd).rd (fun _ _ _ h => h) ho6.2.1) (by simp) (by simp) (by simp; omega)
    rw [show ([C] : List (List UInt8)).flatten = C by simp] at hsv
    refine call hsv ?_
    rintro v w8 ⟨rfl, F8, hD8, hG8, hK8⟩
    have hK58 := (Nw.kp n57 F).trans hK8 fun _ _ h => h
    refine ⟨hK58, ?_⟩
    have hG58 : Gr F F8 w5 w8 := Gr.wide hG8 n57.size (Nat.le_refl _)
    obtain ⟨h8, ch8⟩ := Ch.disk h5 hD8 hG58 hK58
    have cw8 := (Ch.nw n5 : Ch w w5 F F G G V V).trans ch8
    have hRX : Rd w8 X (b.map u8) := (hr.nw n5).kp hK58 (fun a ha hx hf => hX a ha hx (h.fv _ hf))
    obtain ⟨E, hE⟩ : ∃ E, E = kSave D (imgN p) C := ⟨_, rfl⟩
    rw [← hE] at e0 h8 ⊢
    obtain ⟨D8, e8⟩ := E
    simp only at h8 ⊢
    by_cases h0 : e8 = 0
    · subst h0
      have ea : wrS (D8, 0) (logN p) = rmvs D8 [logN p] := by unfold wrS; rw [if_neg (fun h => h rfl)]
      rw [ea] at e0
      simp -dsimp [go_sem]
      clear q0 kq kqN hqF q0d q1d
      have q0 := LS.c0' h8
      have kq : Kp F8 w8 (World.drew w8) := (Kp.refl _ _).drew
      have kqN : Nw w8 (World.drew w8) := (Kp.refl _ _).drew
      have hqF := LS.lF h8
      have q0d := kq.cell_some q0 hqF
      have q1d := kqN.cell_some (LS.c1' h8) fun h => h
      refine draw (.take 0 (.take 1 (.take 2 (.take 3 (.take 4 (.alt 5 (.alt 6 (.alt 7 (.take 8 .done) .stop) .stop) .stop)))))) (by kernel_rfl) (fun wz => Kp F8 w8 wz) kq ?_
      simp -dsimp [go_sem, q0d]
      refine ⟨fun wz hz => by simp [hz.cell_some q0 hqF], ?_⟩
      refine call (logname_spec l p w8.drew q1d hp) ?_
      rintro v wq ⟨rfl, rfl⟩
      refine ⟨kq, ?_⟩
      simp -dsimp [go_sem]
      have kb8 : Nw w8 (w8.alloc (.cells #[str (logN p)] 9)).drew := ((Kp.refl _ _).alloc _).drew
      refine ⟨Nw.kp kb8 _, ?_⟩
      refine call (removes_spec [logN p] _ 1 g D8 F8 _ (h8.dk.nw kb8) ((Rd.fresh (w := w8) rfl rfl).nw ((Kp.refl _ _).drew)) (h8.dk.ofl_new (Nat.le_refl _) _) (by simp) (by simpa using hsN)) ?_
      rintro v w9 ⟨rfl, F9, hD9, hG9, hK9⟩
      have hK89 := (Nw.kp kb8 F8).trans hK9 fun _ _ h => h
      refine ⟨hK89, ?_⟩
      obtain ⟨h9, ch9⟩ := Ch.disk h8 hD9 (Gr.wide hG9 kb8.size (Nat.le_refl _)) hK89
      have cw9 := cw8.trans ch9
      have hRX9 : Rd w9 X (b.map u8) := hRX.kp hK89 (fun a ha hx hf => (hG58 _ hf).elim (fun e => hX a ha hx (h.fv _ e)) fun e => (hr.nw n5).ofl (S := fun k => w5.heap.size ≤ k) (fun _ h => h) a ha hx e.1)
      obtain ⟨E, hE⟩ : ∃ E, E = rmvs D8 [logN p] := ⟨_, rfl⟩
      rw [← hE] at e0 h9 ⊢
      obtain ⟨DE, e9⟩ := E
      simp only at h9 ⊢
      by_cases h0 : e9 = 0
      · subst h0
        simp -dsimp [go_sem]
        refine call (dies0_spec l g p L G _ w9 h9.lg hd) ?_
        rintro v wd ⟨rfl, lgd, kdd⟩
        have hGl := h9.lg.gl
        obtain ⟨hLd, chd⟩ := Ch.own h9 lgd (fun _ h => .inl h) (fun _ h => .inl h) (fun _ h => h) (kdd.mono fun k _ (e : k = l) => e ▸ hGl)
        have ccd := cw9.trans chd
        have hRd : Rd wd X (b.map u8) := hRX9.kp kdd (fun a ha hx (e : a.block = l) => hX a ha hx (e ▸ h.lg.gv l h.lg.gl))
        have hap : wrL L (DE, 0) N b = (DE, ⟨N, b, [], false⟩, 0) := by unfold wrL; rw [if_neg (fun h => h rfl)]
        rw [hap] at e0
        rw [e0]
        simp -dsimp [go_sem]
        refine call (clone_spec X x b wd hRd (by omega)) ?_
        rintro v we ⟨hBe, hke⟩
        have hLe := hLd.nw hke
        obtain ⟨lg1, k1⟩ := hLe.lg.set N hBe (fun k hk => hLd.lg.lt k hk)
        obtain ⟨lg2, k2⟩ := lg1.clear
        obtain ⟨Ye, ye, rfl, hoe, hYe⟩ := id hBe
        obtain ⟨B0, d0, A0, c00, vs0, hb5, _⟩ := id hLe.lg
        have q2 := hb5.cell 2
        have q3 := hb5.cell 3
        have q4 := hb5.cell 4
        have f2 := hb5.frozen 2
        have f3 := hb5.frozen 3
        have f4 := hb5.frozen 4
        have k12 := k1.trans k2 fun _ _ h => h
        obtain ⟨hLf, chf⟩ := Ch.own hLe lg2 (fun _ h => .inl h) (fun _ h => .inl h) (fun _ h => h) (k12.mono fun k _ (e : k = l) => e ▸ hGl)
        have eL : ({ ({ L with base := N, data := b } : Led) with ents := [] } : Led) = ⟨N, b, [], false⟩ := by rw [← hd]
        rw [eL] at hLf
        obtain ⟨bl, hbl⟩ : ∃ bl, bl = b.length := ⟨_, rfl⟩
        rw [← hbl] at hLf chf ⊢
        simp -dsimp [go_sem, q2, q3, q4, f2, f3, f4]
        exact ⟨_, _, _, hLf, (ccd.trans (Ch.nw hke)).trans chf⟩
      · have h0b : ((e9 : Int) == 0) = false := by simp; omega
        simp -dsimp [go_sem]
        refine call (dies_spec e9 l g p L G _ w9 (LS.lg h9)) ?_
        rintro v wd ⟨rfl, lgd, kdd⟩
        have hGl := Lg.gl (LS.lg h9)
        have edd : ({ L with dead := L.dead || decide (e9 ≠ 0) } : Led) = { L with dead := true } := by rw [hd]; simp [h0]
        rw [edd] at lgd
        obtain ⟨hLd, chd⟩ := Ch.own h9 lgd (fun _ h => .inl h) (fun _ h => .inl h) (fun _ h => h) (kdd.mono fun k _ (e : k = l) => e ▸ hGl)
        have hap : wrL L (DE, e9) N b = (DE, { L with dead := true }, e9) := by unfold wrL; rw [if_pos h0]
        rw [hap] at e0
        rw [e0]
        simp -dsimp [go_sem, h0b, h0b]
        exact ⟨_, _, _, hLd, Ch.trans cw9 chd⟩
    · have h0b : ((e8 : Int) == 0) = false := by simp; omega
      have ea : wrS (D8, e8) (logN p) = (D8, e8) := by unfold wrS; rw [if_pos h0]
      rw [ea] at e0
      obtain ⟨DE, hDE⟩ : ∃ DE, DE = D8 := ⟨_, rfl⟩
      rw [← hDE] at e0 h8
      simp -dsimp [go_sem, h0b]
      refine call (dies_spec e8 l g p L G _ w8 (LS.lg h8)) ?_
      rintro v wd ⟨rfl, lgd, kdd⟩
      have hGl := Lg.gl (LS.lg h8)
      have edd : ({ L with dead := L.dead || decide (e8 ≠ 0) } : Led) = { L with dead := true } := by rw [hd]; simp [h0]
      rw [edd] at lgd
      obtain ⟨hLd, chd⟩ := Ch.own h8 lgd (fun _ h => .inl h) (fun _ h => .inl h) (fun _ h => h) (kdd.mono fun k _ (e : k = l) => e ▸ hGl)
      have hap : wrL L (DE, e8) N b = (DE, { L with dead := true }, e8) := by unfold wrL; rw [if_pos h0]
      rw [hap] at e0
      rw [e0]
      simp -dsimp [go_sem, h0b, h0b]
      exact ⟨_, _, _, hLd, Ch.trans cw8 chd⟩
end Go.Proofs.YtipdndmfngpbfaaGreatDoor

namespace Go.Proofs.YtipdndmfngpbfaaGreatDoor
set_option linter.unusedSimpArgs false
set_option linter.unusedVariables false
set_option maxRecDepth 100000
set_option maxHeartbeats 2000000
open Go.Vc Go.RowKit

/-- A ledger and its disk, all of it new since w0. -/
def Lw (w0 w : World) (l g : Nat) (p : Nm) (D : Dsk) (L : Led) : Prop := ∃ F G V, LS w l g p D L F G V ∧ L.Ok ∧ (∀ k, V k → w0.heap.size ≤ k) ∧ Nw w0 w
section
variable {w0 w w1 : World} {l g : Nat} {p : Nm} {D : Dsk} {L : Led}
theorem Lw.nw (T : Lw w0 w l g p D L) (k : Nw w w1) : Lw w0 w1 l g p D L := by
  obtain ⟨F, G, V, h1, h2, h3, h4⟩ := T
  exact ⟨F, G, V, h1.nw k, h2, h3, h4.nw k⟩
theorem Lw.on (T : Lw w0 w l g p D L) : Nw w0 w := by
  obtain ⟨F, G, V, h1, h2, h3, h4⟩ := T
  exact h4
theorem Lw.ok (T : Lw w0 w l g p D L) : D.Ok := by
  obtain ⟨F, G, V, h1, h2, h3, h4⟩ := T
  exact h1.dk.ok
theorem Lw.lok (T : Lw w0 w l g p D L) : L.Ok := by
  obtain ⟨F, G, V, h1, h2, h3, h4⟩ := T
  exact h2
theorem Lw.of {D1 : Dsk} {L1 : Led} {F G V : Nat → Prop} (h : LS w l g p D L F G V) (hV : ∀ k, V k → w0.heap.size ≤ k) (n : Nw w0 w) (c : ChR w w1 l g p D1 L1 F G V) (ok : L1.Ok) : Lw w0 w1 l g p D1 L1 := by
  obtain ⟨F1, G1, V1, h1, ch⟩ := c
  exact ⟨F1, G1, V1, h1, ok, fun k hk => (ch.gV k hk).elim (hV k) fun e => Nat.le_trans n.size e.1, n.at_ ch.kp fun k hk => hk.elim (fun e => hV k (h.fv k e)) fun e => hV k (h.lg.gv k e)⟩
/-- An append of what lay there before, or lies off all that turns. -/
theorem Lw.append (T : Lw w0 w l g p D L) (hp : p.length ≤ 20) (k1 : Nw w w1) (b : List UInt8) (X : Option Addr) (x : Nat) (hr : Rd w1 X (b.map u8)) (hX : Rd w0 X (b.map u8) ∨ ∀ k, blk X k → w.heap.size ≤ k) (hx : b.length ≤ x) (hb : b.length ≤ 140737488355328) :
    Cal Tryz.prog 65 #[.pointer (some ⟨l, 0, none⟩), .slice X b.length x] w1 fun v w' => v = .tuple #[i64 (lApp D p L b).2.2.1, i64 (lApp D p L b).2.2.2] ∧ Lw w0 w' l g p (lApp D p L b).1 (lApp D p L b).2.1 := by
  obtain ⟨F, G, V, h1, h2, h3, h4⟩ := T
  refine (lapp_spec l g p D L F G V b X x w1 (h1.nw k1) hp h2 hr ?_ hx hb).mono ?_
  · rcases hX with hX | hX
    · exact hX.ofl fun k hk => h3 k hk
    · intro a ha _ hv
      have e1 := hX a.block (by rw [ha]; rfl)
      have e2 := h1.lg.lt _ hv
      omega
  · rintro v w' ⟨e, c⟩
    exact ⟨e, Lw.of (h1.nw k1) h3 (h4.nw k1) c (lApp_ok h2 D p b)⟩
theorem Lw.last (T : Lw w0 w l g p D L) : Cal Tryz.prog 103 #[.pointer (some ⟨l, 0, none⟩)] w fun v w' => v = i64 L.last ∧ Nw w w' := by
  obtain ⟨F, G, V, h1, h2, h3, h4⟩ := T
  exact last_spec l g p L G V w h1.lg h2
theorem Lw.at_ (T : Lw w0 w l g p D L) (i : Int) (hi : -9223372036854775808 ≤ i) : Cal Tryz.prog 119 #[.pointer (some ⟨l, 0, none⟩), i64 i] w fun v w' => Nw w w' ∧ ∃ u, v = .tuple #[u, i64 (lAt L i).2] ∧ Bs w' u (lAt L i).1 w.heap.size := by
  obtain ⟨F, G, V, h1, h2, h3, h4⟩ := T
  exact at_spec i l g p L G V w h1.lg h2 hi
end
end Go.Proofs.YtipdndmfngpbfaaGreatDoor

namespace Go.Proofs.YtipdndmfngpbfaaGreatDoor
set_option linter.unusedSimpArgs false
set_option linter.unusedVariables false
set_option maxRecDepth 100000
set_option maxHeartbeats 1000000
open Go.Vc Go.RowKit

theorem mayL_good {D : Dsk} {ns : List Nm} (h : ns.any badN = false) : mayL D ns = if D.left = some 0 then 9 else 0 := by
  unfold mayL
  rw [h]
  rfl
theorem shadow_ne (s : Nm) : s ≠ shadow s := fun h => by
  have := congrArg List.length h
  simp [shadow] at this
theorem kSave_out {D : Dsk} (ok : D.Ok) {s : Nm} {p : List UInt8} (h1 : 1 ≤ s.length) (h2 : s.length ≤ 60) (hp : p.length ≤ 1048576) (hsh : tLook D.fs (shadow s) = none) (hu : D.used + p.length + 12 ≤ D.room) (hm : D.fs.length < 4096) :
    ((kSave D s p).2 = 0 ∧ (kSave D s p).1.fs = tLay D.fs s ⟨recL p, (recL p).length⟩ ∧ (kSave D s p).1.room = D.room ∧ (D.left = none → (kSave D s p).1.left = none)) ∨
    ((kSave D s p).2 = 9 ∧ D.left ≠ none ∧ ∀ t, t ≠ shadow s → tLook (kSave D s p).1.fs t = tLook D.fs t) := by
  have hb1 : badN s = false := by unfold badN; rw [decide_eq_false (by omega), decide_eq_false (by omega)]; rfl
  have hshl : (shadow s).length = s.length + 1 := by simp [shadow]
  have hb2 : badN (shadow s) = false := by unfold badN; rw [decide_eq_false (by omega), decide_eq_false (by omega)]; rfl
  have e0 : kSave D s p = kWhole D s (recL p) := by
    unfold kSave
    rw [if_neg (by omega), if_neg (by omega)]
  have e1 : kW1 D (shadow s) = (D, 0) := by
    unfold kW1
    rw [hsh]
    rfl
  rw [e0]
  unfold kWhole
  rw [e1, if_neg (fun h => h rfl)]
  unfold kW3
  have hne := shadow_ne s
  generalize shadow s = sh at *
  have hRl := recL_len p
  generalize recL p = R at *
  have m1 : mayL D [sh] = if D.left = some 0 then 9 else 0 := mayL_good (by simp [hb2])
  by_cases l0 : D.left = some 0
  · have : dAppend D sh R = (D, 9) := by
      unfold dAppend
      rw [m1, if_pos l0, if_pos (by decide)]
    rw [this]
    exact .inr ⟨rfl, by rw [l0]; simp, fun t _ => rfl⟩
  · have hA : dAppend D sh R = (Dsk.done { D with fs := tLay D.fs sh ⟨R, 0⟩ }, 0) := by
      unfold dAppend
      rw [m1, if_neg l0, if_neg (fun h => h rfl), if_neg (fun h => h.elim (fun h => by omega) fun h => by omega), hsh]
      rfl
    rw [hA]
    simp only [ne_eq, not_true_eq_false, if_false]
    unfold kW4
    have hl4 : tLook (Dsk.done { D with fs := tLay D.fs sh ⟨R, 0⟩ }).fs sh = some ⟨R, 0⟩ := by simp [Dsk.done, tLook_lay]
    have hleft4 : (Dsk.done { D with fs := tLay D.fs sh ⟨R, 0⟩ }).left = D.left.map (· - 1) := rfl
    have hfs4 : (Dsk.done { D with fs := tLay D.fs sh ⟨R, 0⟩ }).fs = tLay D.fs sh ⟨R, 0⟩ := rfl
    have hroom4 : (Dsk.done { D with fs := tLay D.fs sh ⟨R, 0⟩ }).room = D.room := rfl
    generalize Dsk.done { D with fs := tLay D.fs sh ⟨R, 0⟩ } = D4 at *
    have m4 : mayL D4 [sh] = if D4.left = some 0 then 9 else 0 := mayL_good (by simp [hb2])
    by_cases l4 : D4.left = some 0
    · have : dEach fSync D4 [sh] = (D4, 9) := by
        simp only [dEach, dStep, m4, if_pos l4]
        simp
      rw [this]
      refine .inr ⟨rfl, (fun h => by rw [hleft4, h] at l4; cases l4), fun t ht => ?_⟩
      show tLook D4.fs t = _
      rw [hfs4, tLook_lay, if_neg ht]
    · have hC : dEach fSync D4 [sh] = ((fSync D4 sh ⟨R, 0⟩).done, 0) := by
        simp only [dEach, dStep, m4, if_neg l4, hl4]
        simp
      rw [hC]
      simp only [ne_eq, not_true_eq_false, if_false]
      have hleft5 : (fSync D4 sh ⟨R, 0⟩).done.left = D4.left.map (· - 1) := rfl
      have hfs5 : (fSync D4 sh ⟨R, 0⟩).done.fs = tLay D4.fs sh ⟨R, R.length⟩ := rfl
      have hroom5 : (fSync D4 sh ⟨R, 0⟩).done.room = D4.room := rfl
      generalize (fSync D4 sh ⟨R, 0⟩).done = D5 at *
      have m5 : mayL D5 [sh, s] = if D5.left = some 0 then 9 else 0 := mayL_good (by simp [hb1, hb2])
      have hl5 : tLook D5.fs sh = some ⟨R, R.length⟩ := by rw [hfs5, tLook_lay, if_pos rfl]
      unfold dRename
      by_cases l5 : D5.left = some 0
      · rw [m5, if_pos l5, if_pos (by decide)]
        refine .inr ⟨rfl, (fun h => by rw [hleft5, hleft4, h] at l5; cases l5), fun t ht => ?_⟩
        show tLook D5.fs t = _
        rw [hfs5, tLook_lay, if_neg ht, hfs4, tLook_lay, if_neg ht]
      · rw [m5, if_neg l5, if_neg (fun h => h rfl), hl5]
        have hs4 : Srt D4.fs := by rw [hfs4]; exact ok.srt.tLay _ _
        have hs5 : Srt D5.fs := by rw [hfs5]; exact hs4.tLay _ _
        refine .inl ⟨rfl, ?_, by show D5.room = _; rw [hroom5, hroom4], fun h => by show D5.left.map _ = _; rw [hleft5, hleft4, h]; rfl⟩
        show tLay (tGone D5.fs sh) s ⟨R, R.length⟩ = _
        refine tLook_ext ((hs5.tGone _).tLay _ _) (ok.srt.tLay _ _) fun t => ?_
        rw [tLook_lay, tLook_lay]
        by_cases hts : t = s
        · rw [if_pos hts, if_pos hts]
        · rw [if_neg hts, if_neg hts, tLook_gone hs5]
          by_cases hth : t = sh
          · rw [if_pos hth, hth, hsh]
          · rw [if_neg hth, hfs5, tLook_lay, if_neg hth, hfs4, tLook_lay, if_neg hth]
end Go.Proofs.YtipdndmfngpbfaaGreatDoor

namespace Go.Proofs.YtipdndmfngpbfaaGreatDoor
set_option linter.unusedSimpArgs false
set_option linter.unusedVariables false
set_option maxRecDepth 100000
open Go.Vc Go.RowKit

def recsB (l : List (List UInt8)) : List UInt8 := l.flatMap recL
end Go.Proofs.YtipdndmfngpbfaaGreatDoor

