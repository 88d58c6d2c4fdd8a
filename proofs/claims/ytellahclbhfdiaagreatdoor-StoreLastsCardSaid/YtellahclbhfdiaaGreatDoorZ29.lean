/-
  A store's plans walked: copies. By the session itself. A store in memory; its small functions. By the session itself. A table's names, rising: keys walked. By the session itself; slices.Sort by the kit's contract.
-/
import Derived.Test.YtellahclbhfdiaaGreatDoorZ28
import Derived.Test.YtellahclbhfdiaaGreatDoorZ27
import Derived.Test.YtellahclbhfdiaaGreatDoorZ03
namespace Go.Proofs.YtellahclbhfdiaaGreatDoor
set_option linter.unusedSimpArgs false
set_option linter.unusedVariables false
set_option maxRecDepth 100000
set_option maxHeartbeats 2000000
open Go.Vc Go.RowKit
theorem SttA.less {w:World} {t:Nat} {T:Stt} {F V V':Nat → Prop} (h:SttA w t T F V) (hV:∀ i,V' i → V i) (hF:∀ i,F i → V' i):SttA w t T F V':=by
 obtain ⟨r,ptr,rb,vb,Fs,h⟩:=h
 refine ⟨r,ptr,rb,vb,Fs,h.blk,h.mp,fun s u hu => ?_,h.apart,h.inn,h.ne,h.ft,h.fr,h.lt,hF⟩
 obtain ⟨h1,h2,h3,h4⟩:=h.us s u hu
 exact ⟨⟨h1.blk,h1.mp,fun n b hb => (h1.bx n b hb).ofl fun i hi => .inl (hV i hi)⟩,h2,h3,h4⟩
/-- The plan's own cell turns: nothing of it matters. -/
theorem Does.put {w w':World} {f:Value} {t z:Nat} {T:Stt} {F V:Nat → Prop} (h:Does w f t T F (fun i => V i ∨ i = z)) (k:Kp (At z) w w') (hz:¬ F z) (hVz:¬ V z) (hzl:z < w.heap.size):Does w' f t T F V:=by
 obtain ⟨fid,caps,rfl,hgo,h⟩:=h
 refine ⟨fid,caps,rfl,hgo,fun S V' w2 k2 hS hG hV => ?_⟩
 have hzw:z < w'.heap.size:=Nat.lt_of_lt_of_le hzl k.size
 have hz2:z < w2.heap.size:=Nat.lt_of_lt_of_le hzw k2.size
 refine (h (fun i => S i ∨ i = z) (fun i => V' i ∨ i = z) w2 ((k.mono fun i _ e => .inr e).trans (k2.mono fun i _ e => .inl e) fun _ _ h => h) (fun i hi => hi.elim (fun e => ⟨.inl (hS i e).1,(hS i e).2⟩) fun e => ⟨.inr e,e ▸ hz⟩) (fun i hi => ?_) (fun i hi => hi.imp (hV i) id)).mono ?_
 ·rcases hi with hi | rfl
  ·rcases hG i hi with e | e
   ·exact .inl (.inl e)
   ·exact .inr ⟨Nat.le_trans k.size e.1,e.2⟩
  ·exact .inl (.inr rfl)
 ·rintro v w3 ⟨rfl,F1,V1,h1,h2,h3,h4,h5⟩
  have hV'z:¬ V' z:=fun e => (hG z e).elim hVz fun e => by omega
  have hF1z:¬ F1 z:=fun e => (h2 z e).elim hz fun e => by omega
  refine ⟨rfl,F1,fun i => V1 i ∧ i ≠ z,h1.less (fun i hi => hi.1) (fun i hi => ?_),h2,fun i hi => ?_,fun i hi => ⟨h4 i (.inl hi),fun e => hV'z (e ▸ hi)⟩,h5⟩
  ·obtain ⟨_,_,_,_,_,hM⟩:=h1
   exact ⟨hM.fv i hi,fun e => hF1z (e ▸ hi)⟩
  ·rcases h3 i hi.1 with (e | e) | e
   ·exact .inl e
   ·exact absurd e hi.2
   ·exact .inr e
theorem PlanR.put {w w':World} {v:Value} {t z:Nat} {P:Int × Int × Stt} {F V:Nat → Prop} (h:PlanR w v t P F (fun i => V i ∨ i = z)) (k:Kp (At z) w w') (hz:¬ F z) (hVz:¬ V z) (hzl:z < w.heap.size):PlanR w' v t P F V:=by
 rcases h with h | ⟨h1,f,h2,h3⟩
 ·exact .inl h
 ·exact .inr ⟨h1,f,h2,h3.put k hz hVz hzl⟩
theorem PlanR.three {w:World} {v:Value} {t:Nat} {P:Int × Int × Stt} {F V:Nat → Prop} (h:PlanR w v t P F V):∃ f n e,v = .agg #[f,i64 n,i64 e] ∧ (f = .nilFunc ∨ ∃ fid caps,f = .func (.func fid) #[] caps):=by
 rcases h with ⟨_,rfl⟩ | ⟨_,f,rfl,fid,caps,rfl,_⟩
 ·exact ⟨_,_,_,rfl,.inl rfl⟩
 ·exact ⟨_,_,_,rfl,.inr ⟨_,_,rfl⟩⟩
/-- A wider V. -/
theorem SttM.wide {w w':World} {t r:Nat} {T:Stt} {F V:Nat → Prop} {ptr rb:Nm → Nat} {vb:Nm → Nm → Value} {Fs:Nm → Nat → Prop} (h:SttM w t T F V r ptr rb vb Fs) (n:Nw w w') {z:Nat} (hz:w.heap.size ≤ z) (hz2:z < w'.heap.size):SttM w' t T F (fun i => V i ∨ i = z) r ptr rb vb Fs :=
 h.step n (fun _ h => h.elim) (fun i hi => hi.imp id fun e => by subst e; exact ⟨hz,hz2⟩) fun i hi => .inl hi
theorem RC.wide {w w':World} {v:Value} {c:Chg} {V:Nat → Prop} (h:RC w v c V) (n:Nw w w') {z:Nat} (hz:w.heap.size ≤ z):RC w' v c (fun i => V i ∨ i = z):=by
 obtain ⟨A,ca,B,cb,h1,h2,h3,h4,h5,h6,h7⟩:=h
 refine ⟨A,ca,B,cb,h1,h2,h3,h4.nw n,fun a ha hx hs => ?_,h6.nw n,fun a ha hx hs => ?_⟩
 ·rcases hs with hs | hs
  ·exact h5 a ha hx hs
  ·exact h4.ofl (S:=fun i => w.heap.size ≤ i) (fun i hi => hi) a ha hx (by show w.heap.size ≤ a.block; omega)
 ·rcases hs with hs | hs
  ·exact h7 a ha hx hs
  ·exact h6.ofl (S:=fun i => w.heap.size ≤ i) (fun i hi => hi) a ha hx (by show w.heap.size ≤ a.block; omega)
theorem copies_spec {t r:Nat} {T:Stt} {F V:Nat → Prop} {ptr rb:Nm → Nat} {vb:Nm → Nm → Value} {Fs:Nm → Nat → Prop} {u:Usr} {b:Bx} (c:Chg) (v bv:Value) (w:World) (h:SttM w t T F V r ptr rb vb Fs) (ok:T.Ok) (hVl:∀ i,V i → i < w.heap.size) (hu:tLook T.us c.user = some u) (hc:RC w v c V) (hcl:c.uids.length ≤ 24) (hbv:RB w bv b V) (hbi:isB b = true) :
  Cal Tryz.prog 95 #[v,.pointer (some ⟨ptr c.user,0,none⟩),bv] w fun v w' => PlanR w' v t (plCopy T c u b) F V ∧ Nw w w':=by
 have hRB:=hbv
 obtain ⟨A,ca,B,cb,rfl,hca,hcb,hrA,hoA,hrB,hoB⟩:=hc
 obtain ⟨Z,zc,q1,rfl,hq1,hc1,hr1,ho1,hbd1⟩:=hbv
 have hUO:=(ok.us _ _ hu).2
 have hI:=IsB.of hbi
 have hql:q1.length = b.L.length:=by rw [← hq1,List.length_map]
 refine enter Tryz.mixed Tryz.func95 rfl (by kernel_rfl) ?_
 simp -dsimp [go_sem]
 obtain ⟨y,q,z,hy',hq',hz',hy,hq,hz,hsz,n0⟩:=three_new w 25 111 100 (chV c A ca B cb) #[.string b.name,i64 b.val,i64 b.next,.slice Z b.L.length zc] #[.nilFunc,i64 0,i64 0]
 rw [← hy',← hq',← hz']
 generalize ((w.alloc (.cells (chV c A ca B cb) 25)).alloc (.cells #[.string b.name,i64 b.val,i64 b.next,.slice Z b.L.length zc] 111)).alloc (.cells #[.nilFunc,i64 0,i64 0] 100) = wa at *
 have hM:=h.nw n0
 obtain ⟨hU,h2,h3,h4⟩:=hM.us _ _ hu
 have y4:=hy.cell 4
 have p1:=hU.blk.cell 1
 have hlz:∀ wz,Nw wa wz → (Instr.lookup 156 (.map (some (rb c.user))) (str c.to) true).run Tryz.prog wz = .ok (.tuple #[(Mb (vb c.user) u.bx c.to).getD (.agg #[.string ⟨#[]⟩,i64 0,i64 0,.slice none 0 0]),.bool (Mb (vb c.user) u.bx c.to).isSome]) wz:=fun wz hk => lookup_mp KL hmb zeroBox (hU.mp.kp hk fun h => h) c.to true
 have kdr:Nw wa wa.drew:=(Kp.refl _ _).drew
 have hlk:=hlz wa.drew kdr
 refine draw (.take 0 (.take 1 (.take 2 (.take 3 (.take 4 (.take 5 (.take 6 (.take 7 (.take 8 (.take 9 (.alt 10 (.alt 11 (.take 12 .done) .stop) .stop)))))))))))  (by kernel_rfl) (fun wz => Nw wa wz) kdr ?_
 have kf:∀ cs,Nw wa (wa.alloc (.cells cs 111)).drew:=fun cs => ((Kp.refl _ wa).alloc _).drew
 have ka:∀ cs,Nw wa (wa.alloc (.cells cs 111)):=fun cs => (Kp.refl _ wa).alloc _
 cases hb:tLook u.bx c.to with
 | none =>
  have hpl:plCopy T c u b = (7,0,T):=by unfold plCopy; rw [hb]
  rw [show Mb (vb c.user) u.bx c.to = none by simp [Mb,hb]] at hlz hlk
  simp -dsimp [go_sem,y4,p1,hlk]
  refine ⟨fun wz hz => by simp [hz.cell_some p1 fun h => h],fun wz hz => by simp [hz.cell_some y4 fun h => h],fun wz hk => by simp [hlz wz hk],kf _,?_⟩
  refine call (refused_spec 7 _) ?_
  rintro v w1 ⟨rfl,k1⟩
  have n1:=Kp.nw (n0.nw (kf _)) k1
  have hz1:=Blk.nw (hz.nw (kf _)) k1
  have z0c:=hz1.cell 0
  have z1c:=hz1.cell 1
  have z2c:=hz1.cell 2
  have z0f:=hz1.frozen 0
  have z1f:=hz1.frozen 1
  have z2f:=hz1.frozen 2
  simp -dsimp [go_sem,z0c,z1c,z2c,z0f,z1f,z2f]
  rw [hpl]
  exact ⟨.inl ⟨by simp,rfl⟩,n1.at_ (set3 w1 z _ _ _) fun k (e:k = z) => by omega⟩
 | some d =>
  have hpl:plCopy T c u b = plKeep T c.user u c.to (copyL c.uids b.L d 0).2.2 (copyL c.uids b.L d 0).2.1 (copyL c.uids b.L d 0).1:=by unfold plCopy; rw [hb]
  have hD:=hUO.bx _ _ hb
  have hRd:=hU.bx _ _ hb
  obtain ⟨X,xc,hv⟩:=hRd.open_
  rw [hv] at hRd
  rw [show Mb (vb c.user) u.bx c.to = some (.agg #[.string d.name,i64 d.val,i64 d.next,.slice X d.L.length xc]) by simp [Mb,hb,hv]] at hlz hlk
  have q3:=fun cs => (hq.nw (ka cs)).cell 3
  obtain ⟨N,hN⟩:∃ N,N = b.L.length:=⟨_,rfl⟩
  rw [← hN] at q3
  have hg0:=Blk.new wa 111 #[.string d.name,i64 d.val,i64 d.next,.slice X d.L.length xc]
  obtain ⟨g,hg⟩:∃ g,g = wa.heap.size:=⟨_,rfl⟩
  have hgs:(wa.alloc (.cells #[.string d.name,i64 d.val,i64 d.next,.slice X d.L.length xc] 111)).drew.heap.size = g + 1:=by simp [hg]
  simp -dsimp [go_sem,y4,p1,hlk,q3]
  refine ⟨fun wz hz => by simp [hz.cell_some p1 fun h => h],fun wz hz => by simp [hz.cell_some y4 fun h => h],fun wz hk => by simp [hlz wz hk],kf _,kf _,?_⟩
  have hgd:=hg0.nw ((Kp.refl (fun _ => False) _).drew)
  have n1:=n0.nw (kf #[.string d.name,i64 d.val,i64 d.next,.slice X d.L.length xc])
  have hyb:=hy.nw (kf #[.string d.name,i64 d.val,i64 d.next,.slice X d.L.length xc])
  have hqb:=hq.nw (kf #[.string d.name,i64 d.val,i64 d.next,.slice X d.L.length xc])
  have hzb:=hz.nw (kf #[.string d.name,i64 d.val,i64 d.next,.slice X d.L.length xc])
  have nab:=kf #[.string d.name,i64 d.val,i64 d.next,.slice X d.L.length xc]
  rw [← hg] at hgd ⊢
  generalize (wa.alloc (.cells #[.string d.name,i64 d.val,i64 d.next,.slice X d.L.length xc] 111)).drew = wb at *
  have hgw:w.heap.size ≤ g:=by omega
  have hRB0:RB wb (.agg #[.string d.name,i64 d.val,i64 d.next,.slice X d.L.length xc]) d (fun i => V i ∨ i = g ∨ i = z):=by
   have h0:=(h.us _ _ hu).1.bx _ _ hb
   rw [hv] at h0
   exact (h0.ofl (T:=fun i => V i ∨ i = g ∨ i = z) fun i hi => hi.imp id fun e => by omega).nw n1
  have hgl:=hgd.lt
  refine loop [9,10,12,29,30,31,32,33,34,35,36,37,38,39,40,41,42,43,44,45,46,47,48,49,50,51,52,53,54,55,56] (by kernel_rfl)
   (fun f w' => Box2 (fun a e w' => ∃ (i n:Nat) (d':Bx) (vL:Value),a = i64 i ∧ i ≤ N ∧ e = i64 n ∧ n ≤ i ∧ Blk w' g 111 #[.string d'.name,i64 d'.val,i64 d'.next,vL] ∧ RB w' (.agg #[.string d'.name,i64 d'.val,i64 d'.next,vL]) d' (fun i => V i ∨ i = g ∨ i = z) ∧ isB d' = true ∧ d'.name = ⟨c.to.toArray⟩ ∧ copyL c.uids b.L d 0 = copyL c.uids (b.L.drop i) d' n ∧ Kp (At g) wb w') (f 29) (f 9) w') (fun f _ => N - (intOf (f 29)).toNat)
   ⟨0,0,d,_,rfl,Nat.zero_le _,rfl,Nat.le_refl _,hgd,hRB0,hD.2,hD.1,rfl,Kp.refl _ _⟩ ?_
  rintro f w5 ⟨i,n,d',vL,f29,hi,f9,hni,hg5,hR5,hi5,hn5,hE,hk5⟩
  have hN24:N ≤ 24:=by have:=hI.len; omega
  by_cases hlt:i < N
  ·have hltL:i < b.L.length:=by omega
   have hi1:IntKind.i64.wrap ((i:Int) + 1) = ((i + 1:Nat):Int):=by rw [w64 (by omega) (by omega)]; omega
   have hn1:IntKind.i64.wrap ((n:Int) + 1) = ((n + 1:Nat):Int):=by rw [w64 (by omega) (by omega)]; omega
   obtain ⟨i1,hi1'⟩:∃ i1,i1 = i + 1:=⟨_,rfl⟩
   obtain ⟨m1,hm1'⟩:∃ m1,m1 = n + 1:=⟨_,rfl⟩
   rw [← hi1'] at hi1
   rw [← hm1'] at hn1
   have hltq:i < q1.length:=by omega
   have n5:Nw w w5:=n1.at_ hk5 fun k (e:k = g) => by omega
   obtain ⟨ga,o,rfl,e0,e1,e2,e3⟩:=msg_at (hr1.nw n5) hltq
   have hqi:q1[i].1 = b.L[i]:=by simp only [← hq1,List.getElem_map]
   have hbq:=hbd1 _ (List.getElem_mem hltq)
   have hdr:b.L.drop i = b.L[i] :: b.L.drop (i + 1):=List.drop_eq_getElem_cons hltL
   rw [hdr,← hi1'] at hE
   have hbm:=(hI.all _ (List.getElem_mem hltL)).2.2.2.2
   rw [hqi] at e0 e1 e2 hbq
   generalize b.L[i] = m at *
   generalize q1[i].2 = mv at *
   obtain ⟨Bm,dm,rfl,hrm,hom,hdm⟩:=hbq
   have kam:Nw w5 (w5.alloc (.cells #[i64 m.uid,i64 m.flags,i64 m.date,.slice Bm m.body.length dm] 186)):=(Kp.refl _ _).alloc _
   have hm0:=Blk.new w5 186 #[i64 m.uid,i64 m.flags,i64 m.date,.slice Bm m.body.length dm]
   have hy5:=(hyb.kp hk5 fun (e:y = g) => by omega).nw kam
   have y55:=hy5.cell 5
   obtain ⟨x,hx⟩:∃ x,x = w5.heap.size:=⟨_,rfl⟩
   simp -dsimp [go_sem,f29,hlt,e0,e1,e2,e3,y55]
   rw [← hx] at hm0 ⊢
   have hg6:=hg5.nw kam
   have hR6:=hR5.nw kam
   have hk6:Kp (At g) wb (w5.alloc (.cells #[i64 m.uid,i64 m.flags,i64 m.date,.slice Bm m.body.length dm] 186)):=hk5.nw kam
   have n6:=n5.nw kam
   have hgs6:g < (w5.alloc (.cells #[i64 m.uid,i64 m.flags,i64 m.date,.slice Bm m.body.length dm] 186)).heap.size:=hg6.lt
   generalize w5.alloc (.cells #[i64 m.uid,i64 m.flags,i64 m.date,.slice Bm m.body.length dm] 186) = w6 at *
   refine call (icontains_spec c.uids m.uid A ca w6 (hrA.nw n6) (by omega)) ?_
   rintro v w6' ⟨rfl,e6⟩
   obtain rfl:=e6.symm
   by_cases hmem:m.uid ∈ c.uids
   ·have g0:=hg6.cell 0
    have g1:=hg6.cell 1
    have g2:=hg6.cell 2
    have g3:=hg6.cell 3
    have m1c:=hm0.cell 1
    have m2c:=hm0.cell 2
    have m3c:=hm0.cell 3
    have hI5:=IsB.of hi5
    obtain ⟨A5,c5,hv5⟩:=hR6.open_
    injection hv5 with hv5
    injection hv5 with hv5
    simp at hv5
    subst hv5
    simp -dsimp [go_sem,hmem,g0,g1,g2,g3,m1c,m2c,m3c]
    refine call (add_spec _ d' _ m.flags m.date m.body Bm dm w6 hR6 (by have:=hI5.len; omega) (fun k hk => by have:=(hI5.all k hk).2.2.2.2; omega) (hrm.nw n6) (by have:=hI5.next; omega)) ?_
    rintro v w7 ⟨⟨bv,rfl,hO⟩,hk7⟩
    have hname:=addB_name d' m.flags m.date m.body
    have hadd:=hI5.add m.flags m.date m.body
    have hE2:copyL c.uids b.L d 0 = if (addB d' m.flags m.date m.body).2.2 ≠ 0 then ((addB d' m.flags m.date m.body).2.2,0,d') else copyL c.uids (b.L.drop i1) (addB d' m.flags m.date m.body).1 (n + 1):=by rw [hE]; conv => lhs; unfold copyL; rw [if_pos hmem]
    obtain ⟨R,hR⟩:∃ R,R = addB d' m.flags m.date m.body:=⟨_,rfl⟩
    rw [← hR] at hO hname hadd hE2 ⊢
    obtain ⟨R1,R2,R3⟩:=R
    simp only at hO hname hadd hE2 ⊢
    have hR1B:isB R1 = true:=hadd.is (by rw [hname.1]; exact isB_name hi5)
    obtain ⟨A7,c7,rfl⟩:=hO.open_
    have hg7:=hg6.nw hk7
    have g0:=hg7.cell 0
    have g1:=hg7.cell 1
    have g2:=hg7.cell 2
    have g3:=hg7.cell 3
    have gf0:=hg7.frozen 0
    have gf1:=hg7.frozen 1
    have gf2:=hg7.frozen 2
    have gf3:=hg7.frozen 3
    simp -dsimp [go_sem,g0,g1,g2,g3,gf0,gf1,gf2,gf3]
    have k78:=kp_set4 w7 g (.string R1.name) (i64 R1.val) (i64 R1.next) (.slice A7 R1.L.length c7)
    have hg8:=blk_set4 hg7 (.string R1.name) (i64 R1.val) (i64 R1.next) (.slice A7 R1.L.length c7)
    generalize (((w7.setCell ⟨g,0,none⟩ (.string R1.name)).setCell ⟨g,1,none⟩ (i64 R1.val)).setCell ⟨g,2,none⟩ (i64 R1.next)).setCell ⟨g,3,none⟩ (.slice A7 R1.L.length c7) = w8 at *
    have hk8:Kp (At g) wb w8:=(hk6.nw hk7).trans k78 fun _ _ h => h
    have n8:Nw w w8:=n1.at_ hk8 fun k (e:k = g) => by omega
    by_cases he:R3 = 0
    ·subst he
     rw [if_neg (by simp)] at hE2
     have hO8:OB w8 (.agg #[.string R1.name,i64 R1.val,i64 R1.next,.slice A7 R1.L.length c7]) R1 w6.heap.size:=hO.kp k78 fun k hk _ (e:k = g) => by omega
     have hR8:=hO8.rb.ofl (T:=fun i => V i ∨ i = g ∨ i = z) fun i hi => .inl (hi.elim (fun e => by have:=hVl i e; have:=n6.size; show i < w6.heap.size; omega) fun e => by show i < w6.heap.size; omega)
     simp -dsimp [go_sem,f9,hn1,f29,hi1]
     exact ⟨⟨i1,m1,R1,_,rfl,by omega,rfl,by omega,hg8,hR8,hR1B,hname.1.trans hn5,by rw [hm1']; exact hE2,hk8⟩,by simp [intOf]; omega⟩
    ·rw [if_pos he] at hE2
     have hne:(R3 != 0) = true:=by simpa using he
     simp -dsimp [go_sem,hne]
     refine call (refused_spec R3 _) ?_
     rintro v w9 ⟨rfl,k9⟩
     have n9:=n8.nw k9
     have hz9:=(hzb.kp hk8 fun (e:z = g) => by omega).nw k9
     have z0c:=hz9.cell 0
     have z1c:=hz9.cell 1
     have z2c:=hz9.cell 2
     have z0f:=hz9.frozen 0
     have z1f:=hz9.frozen 1
     have z2f:=hz9.frozen 2
     simp -dsimp [go_sem,z0c,z1c,z2c,z0f,z1f,z2f]
     rw [hpl,hE2]
     refine ⟨.inl ⟨?_,?_⟩,n9.at_ (set3 w9 z _ _ _) fun k (e:k = z) => by omega⟩
     ·unfold plKeep; rw [if_pos he]; exact he
     ·unfold plKeep; rw [if_pos he]
   ·have hE1:copyL c.uids b.L d 0 = copyL c.uids (b.L.drop i1) d' n:=by rw [hE]; conv => lhs; unfold copyL; rw [if_neg hmem]
    simp -dsimp [go_sem,hmem,f29,hi1]
    exact ⟨⟨i1,n,d',vL,rfl,by omega,f9,by omega,hg6,hR6,hi5,hn5,hE1,hk6⟩,by simp [intOf]; omega⟩
  ·obtain rfl:i = N:=by omega
   have n5:Nw w w5:=n1.at_ hk5 fun k (e:k = g) => by omega
   have g0:=hg5.cell 0
   have g1:=hg5.cell 1
   have g2:=hg5.cell 2
   have g3:=hg5.cell 3
   rw [List.drop_eq_nil_of_le (by omega)] at hE
   have hE:copyL c.uids b.L d 0 = (0,n,d'):=hE
   rw [hE] at hpl
   simp -dsimp [go_sem,f29,hlt,f9,g0,g1,g2,g3]
   have hz5:=hzb.kp hk5 fun (e:z = g) => by omega
   have hzl:=hz5.lt
   refine call (keeps_spec w5 _ (h.wide n5 (z:=z) (by omega) hzl) (fun i hi => hi.elim (fun e => Nat.lt_of_lt_of_le (hVl i e) n5.size) fun e => e ▸ hzl) hu hn5 (hR5.ofl (T:=fun i => V i ∨ i = z) fun i hi => ?_) (n:Int) 0) ?_
   ·exact .inl (hi.imp id .inr)
   ·rintro v w6 ⟨hP,k6⟩
    have hz6:=hz5.nw k6
    have n6:=n5.nw k6
    have hzF:¬ F z:=fun e => by have:=hVl _ (h.fv _ e); omega
    have hzV:¬ V z:=fun e => by have:=hVl _ e; omega
    have z0c:=hz6.cell 0
    have z1c:=hz6.cell 1
    have z2c:=hz6.cell 2
    have z0f:=hz6.frozen 0
    have z1f:=hz6.frozen 1
    have z2f:=hz6.frozen 2
    obtain ⟨pf,pn,pe,rfl,hpf⟩:=hP.three
    rw [hpl]
    rcases hpf with rfl | ⟨fid,caps,rfl⟩
    ·simp -dsimp [go_sem,z0c,z1c,z2c,z0f,z1f,z2f]
     exact ⟨hP.put (set3 w6 z _ _ _) hzF hzV hz6.lt,n6.at_ (set3 w6 z _ _ _) fun k (e:k = z) => by omega⟩
    ·simp -dsimp [go_sem,z0c,z1c,z2c,z0f,z1f,z2f]
     exact ⟨hP.put (set3 w6 z _ _ _) hzF hzV hz6.lt,n6.at_ (set3 w6 z _ _ _) fun k (e:k = z) => by omega⟩
set_option maxHeartbeats 1000000
/-- Block s is a store: the ledger at l on the disk at g, the state at t. -/
structure StM (w:World) (s g l t:Nat) (S:Sto) (F G FS V:Nat → Prop):Prop where
 blk:Blk w s 97 #[.pointer (some ⟨l,0,none⟩),.pointer (some ⟨t,0,none⟩),.bool S.dead]
 ls:LS w l g mailN S.D S.L F G V
 lok:S.L.Ok
 st:SttA w t S.T FS V
 apF:∀ i,FS i → ¬ F i ∧ ¬ G i
 sv:V s
 sap:¬ F s ∧ ¬ G s ∧ ¬ FS s
theorem StM.nw {w w':World} {s g l t:Nat} {S:Sto} {F G FS V:Nat → Prop} (h:StM w s g l t S F G FS V) (k:Nw w w'):StM w' s g l t S F G FS V :=
 ⟨h.blk.nw k,h.ls.nw k,h.lok,h.st.nw k,h.apF,h.sv,h.sap⟩
theorem user_spec {w:World} {s t r:Nat} {l:Value} {T:Stt} {F V:Nat → Prop} {ptr rb:Nm → Nat} {vb:Nm → Nm → Value} {Fs:Nm → Nat → Prop} {dd:Bool} (hb:Blk w s 97 #[l,.pointer (some ⟨t,0,none⟩),.bool dd]) (h:SttM w t T F V r ptr rb vb Fs) (n:Nm) :
  Cal Tryz.prog 85 #[.pointer (some ⟨s,0,none⟩),str n] w fun v w' => v = (Mu ptr T.us n).getD (.pointer none) ∧ w' = w:=by
 have b1:=hb.cell 1
 have t1:=h.blk.cell 1
 have hlk:=lookup_mp KL hmu (z:=.pointer none) (w:=w) rfl h.mp n false
 refine enter Tryz.mixed Tryz.func85 rfl (by kernel_rfl) ?_
 simp -dsimp [go_sem,b1,t1,hlk]
theorem dead_spec {w:World} {s:Nat} {l t:Value} {dd:Bool} (hb:Blk w s 97 #[l,t,.bool dd]):Cal Tryz.prog 29 #[.pointer (some ⟨s,0,none⟩)] w fun v w' => v = .bool dd ∧ w' = w:=by
 have b2:=hb.cell 2
 refine enter Tryz.mixed Tryz.func29 rfl (by kernel_rfl) ?_
 simp -dsimp [go_sem,b2]
theorem check_spec {w:World} {s t:Nat} {l:Value} {T:Stt} {F V:Nat → Prop} {dd:Bool} (hb:Blk w s 97 #[l,.pointer (some ⟨t,0,none⟩),.bool dd]) (h:SttA w t T F V) (n p:Nm) :
  Cal Tryz.prog 47 #[.pointer (some ⟨s,0,none⟩),str n,str p] w fun v w' => v = .bool (match tLook T.us n with | none => false | some u => decide (u.pass = p)) ∧ w' = w:=by
 obtain ⟨r,ptr,rb,vb,Fs,hM⟩:=h
 refine enter Tryz.mixed Tryz.func47 rfl (by kernel_rfl) ?_
 simp -dsimp [go_sem]
 refine call (user_spec hb hM n) ?_
 rintro v w' ⟨rfl,rfl⟩
 cases hu:tLook T.us n with
 | none =>
  rw [show Mu ptr T.us n = none by simp [Mu,hu]]
  simp -dsimp [go_sem]
 | some u =>
  rw [show Mu ptr T.us n = some (.pointer (some ⟨ptr n,0,none⟩)) by simp [Mu,hu]]
  have p0:=(hM.us _ _ hu).1.blk.cell 0
  by_cases hp:u.pass = p
  ·have hp':(u.pass == p) = true:=by simpa using hp
   simp -dsimp [go_sem,p0,hp']
   simp [hp]
  ·have hp':(u.pass == p) = false:=by simpa using hp
   simp -dsimp [go_sem,p0,hp']
   simp [hp]
open Go.Vc Go.RowKit Go.Sort
abbrev srtN (ss:List Nm):List Nm:=ss.mergeSort fun x y => decide (x ≤ y)
theorem ssort_spec (ss:List Nm) (n:Nat) (hn:n = ss.length) (hl:ss.length < 4611686018427387904) (A:Option Addr) (c:Nat) (w:World) (ho:Ow w 9 1 A n c (ss.map fun s => str s)) :
  Cal Tryz.prog 114 #[.slice A n c] w fun v w' => v = .tuple #[] ∧ Rd w' A ((srtN ss).map fun s => str s) ∧ Kp (blk A) w w':=by
 subst hn
 have hrd:=ho.rd
 obtain ⟨h1,h2,h3,⟨rfl,rfl⟩ | ⟨g,cur,rfl,hb,h5,h6⟩⟩:=id ho
 ·have hz:ss = []:=List.eq_nil_of_length_eq_zero (by omega)
  subst hz
  refine (AnyM.slices_Sort_string_none Tryz.sort114 none 0 w).mono fun e w' ⟨he,hw⟩ => ⟨_,he,rfl,?_,?_⟩
  ·rw [hw,show srtN [] = [] by simp [srtN]]; exact Rd.nil _ _
  ·rw [hw]; exact Kp.refl _ _
 ·have hlt:g < w.heap.size:=lt_of_heap hb
  have hH:Sort.Holds encStr w g 0 ss.toArray:=fun j hj => by
   have hj':j < ss.length:=by simpa using hj
   obtain ⟨b,o,e,hc⟩:=hrd j (str ss[j]) (by simp [hj'])
   cases e
   refine ⟨?_,hb.frozen _⟩
   rw [hc]
   simp [getElem!_pos,hj']
  refine (AnyM.slices_Sort_string Tryz.sort114 g 0 c ss w hH hlt hl).mono fun e w' ⟨he,n,os,hw⟩ => ⟨_,he,rfl,?_,?_⟩
  ·intro j u hj
   have hlen:(srtN ss).length = ss.length:=by simp [srtN]
   have hjl:j < (srtN ss).length:=by
    have:=(List.getElem?_eq_some_iff.1 hj).1
    simpa using this
   refine ⟨g,0,rfl,?_⟩
   have hu:u = str (srtN ss)[j]:=by
    rw [List.getElem?_map,List.getElem?_eq_getElem hjl] at hj
    simpa using hj.symm
   rw [hw,Sort.cell?_grow _ _ _ (by simpa using hlt),Sort.cell?_putRow _ (Sort.ahead w n) g 0 ss.toArray _ hH (by simp) j (by simpa using hjl),hu]
   simp [getElem!_pos,hjl]
   show ((srtN ss)[j]?).getD default = _
   rw [List.getElem?_eq_getElem hjl]
   rfl
  ·rw [hw]
   refine ⟨rfl,rfl,rfl,by simp,fun i hi hn => ?_⟩
   rw [Sort.heap_grow_old _ _ (by simpa using hi)]
   show ((Sort.ahead w n).heap.modify g _)[i]? = _
   rw [Array.getElem?_modify,if_neg (fun e => hn e.symm)]
   rfl
theorem srtN_perm {k l:List Nm} (h:k.Perm l) (hs:l.Pairwise fun x y => x < y):srtN k = l:=by
 have h1:srtN l = l:=List.mergeSort_of_pairwise (hs.imp fun {a b} h => by
  have:¬ b < a:=fun h' => nm_lt_irrefl _ (nm_lt_trans h h')
  simpa using this)
 rw [← h1]
 exact mergeSort_of_perm h
theorem keysU_spec (r:Nat) (m:Nm → Option Value) (l:List Nm) (w:World) (h:Mp w r (fun l:Nm => str l) m) (hs:l.Pairwise fun x y => x < y) (hm:∀ a,(m a).isSome = true ↔ a ∈ l) (hl:l.length ≤ 100) :
  Cal Tryz.prog 64 #[.map (some r)] w fun v w' => Nw w w' ∧ ∃ A c,v = .slice A l.length c ∧ Rd w' A (l.map fun s => str s) ∧ l.length ≤ c ∧ ∀ a,A = some a → w.heap.size ≤ a.block:=by
 have K:KeyS Tryz.prog 9 (fun s:Nm => str s):=keyL (by kernel_rfl)
 have hmt:Tryz.prog.underlying 117 = some (.map 9 116):=by kernel_rfl
 obtain ⟨w1,hrun,hR,hk1⟩:=range_mp hmt h
 have nd:l.Nodup:=hs.imp fun {a b} h => nm_ne h
 refine enter Tryz.mixed Tryz.func64 rfl (by kernel_rfl) ?_
 simp -dsimp [go_sem,hrun]
 have hrl:=h.lt
 have hw1:=hR.lt
 obtain ⟨it,hit⟩:∃ it,it = w.heap.size:=⟨_,rfl⟩
 rw [← hit] at hR hw1 ⊢
 refine loop [3,4,7,8,9,10,11,12,13,14] (by kernel_rfl)
  (fun f w' => Box1 (fun a w' => ∃ (ks:List Nm) (A:Option Addr) (c:Nat),a = .slice A ks.length c ∧ ks.Nodup ∧ (∀ s ∈ ks,s ∈ l) ∧ Ow w' 9 1 A ks.length c (ks.map fun s => str s) ∧ (∀ b,A = some b → it < b.block) ∧ Rg w' it r (fun s:Nm => str s) m (fun s => s ∉ ks) ∧ Nw w w') (f 3) w') (fun _ w' => rgN w' it r)
  ⟨[],none,0,rfl,List.nodup_nil,by simp,Ow.nil _ _ _,by simp,by simpa using hR,hk1⟩ ?_
 rintro f w' ⟨ks,A,c,f3,hnd,hin,hO,hA,hR,hK⟩
 have hkl:ks.length ≤ l.length:=hnd.length_le_of_subset hin
 rcases next_rg (P:=Tryz.prog) K.inj hR 0 with ⟨hend,hnext⟩ | ⟨a,v,w2,ha,hla,hnext,hR2,hK2,hN2,hentry⟩
 ·have hp:ks.Perm l:=(List.perm_ext_iff_of_nodup hnd nd).2 fun a => ⟨hin a,fun hal => by
   have:=(hm a).2 hal
   obtain ⟨v,hv⟩:=Option.isSome_iff_exists.1 this
   have:=hend a v hv
   simpa using this⟩
  have hsl:=srtN_perm hp hs
  have hll:ks.length = l.length:=hp.length_eq
  simp -dsimp [go_sem,hnext,f3]
  refine call (ssort_spec ks ks.length rfl (by omega) A c w' hO) ?_
  rintro v w3 ⟨rfl,hr3,k3⟩
  rw [hsl] at hr3
  have n3:Nw w w3:=hK.at_ k3 fun k hk => by
   obtain ⟨b,rfl,rfl⟩:=blk_of hk
   have:=hA b rfl; omega
  have hcl:=hO.2.1
  rw [hll] at f3 hcl
  simp -dsimp [go_sem,f3]
  exact ⟨n3,A,c,⟨rfl,rfl⟩,hr3,hcl,fun b hb => by have:=hA b hb; omega⟩
 ·have hal:a ∈ l:=(hm a).1 (by rw [ha]; rfl)
  have hK2':Nw w w2:=hK.at_ hK2 fun k (e:k = it) => by omega
  have hO2:=hO.kp hK2 fun b hb (e:b.block = it) => by have:=hA b hb; omega
  have hnd2:(ks ++ [a]).Nodup:=List.nodup_append.2 ⟨hnd,by simp,fun x hx y hy => by
   rw [List.mem_singleton.1 hy]
   rintro rfl
   exact hla hx⟩
  have hin2:∀ s ∈ ks ++ [a],s ∈ l:=fun s hs => by
   rcases List.mem_append.1 hs with hs | hs
   ·exact hin s hs
   ·rw [List.mem_singleton.1 hs]; exact hal
  have hkl2:=hnd2.length_le_of_subset hin2
  rw [List.length_append,List.length_singleton] at hkl2
  simp -dsimp [go_sem,hnext,hentry,f3]
  have ka:Nw w2 (w2.alloc (.cells #[str a] 9)):=(Kp.refl _ _).alloc _
  have hitl:it < w2.heap.size:=by have:=hR2.lt; omega
  refine app Tryz.Sstr (hO2.nw ka) (Rd.fresh rfl rfl) (m:=1) rfl (fun u hu => by rw [List.mem_singleton.1 hu]; rfl) (by omega) (by omega) ?_
  intro A' c' w3 ho hk hAA
  have hoff:∀ k,blk A k → it < k:=fun k hk => by
   obtain ⟨b,rfl,rfl⟩:=blk_of hk
   exact hA b rfl
  have hA':∀ b,A' = some b → it < b.block:=fun b hb => by
   rcases hAA with rfl | ⟨rfl,_⟩
   ·exact hA b hb
   ·cases hb; have:=ka.size; simp; omega
  obtain ⟨k1,hk1'⟩:∃ k1,k1 = ks.length + 1:=⟨_,rfl⟩
  have hlen:(ks ++ [a]).length = k1:=by simp [hk1']
  have kx:Kp (blk A) w2 w3:=(Nw.kp ka _).trans hk fun _ _ h => h
  obtain ⟨hR3,hN3⟩:=hR2.kp kx (fun e => by have:=hoff it e; omega) (fun e => by have:=hoff r e; omega)
  rw [← hk1'] at ho ⊢
  simp -dsimp [go_sem]
  exact ⟨⟨ks ++ [a],A',c',by rw [hlen],hnd2,hin2,by rw [hlen,List.map_append]; exact ho,hA',by simpa [not_or] using hR3,hK2'.at_ kx fun k hk => by have:=hoff k hk; omega⟩,by rw [hN3]; exact hN2⟩
theorem keysB_spec (r:Nat) (m:Nm → Option Value) (l:List Nm) (w:World) (h:Mp w r (fun l:Nm => str l) m) (hs:l.Pairwise fun x y => x < y) (hm:∀ a,(m a).isSome = true ↔ a ∈ l) (hl:l.length ≤ 100) :
  Cal Tryz.prog 111 #[.map (some r)] w fun v w' => Nw w w' ∧ ∃ A c,v = .slice A l.length c ∧ Rd w' A (l.map fun s => str s) ∧ l.length ≤ c ∧ ∀ a,A = some a → w.heap.size ≤ a.block:=by
 have K:KeyS Tryz.prog 9 (fun s:Nm => str s):=keyL (by kernel_rfl)
 have hmt:Tryz.prog.underlying 156 = some (.map 9 111):=by kernel_rfl
 obtain ⟨w1,hrun,hR,hk1⟩:=range_mp hmt h
 have nd:l.Nodup:=hs.imp fun {a b} h => nm_ne h
 refine enter Tryz.mixed Tryz.func111 rfl (by kernel_rfl) ?_
 simp -dsimp [go_sem,hrun]
 have hrl:=h.lt
 have hw1:=hR.lt
 obtain ⟨it,hit⟩:∃ it,it = w.heap.size:=⟨_,rfl⟩
 rw [← hit] at hR hw1 ⊢
 refine loop [3,4,7,8,9,10,11,12,13,14] (by kernel_rfl)
  (fun f w' => Box1 (fun a w' => ∃ (ks:List Nm) (A:Option Addr) (c:Nat),a = .slice A ks.length c ∧ ks.Nodup ∧ (∀ s ∈ ks,s ∈ l) ∧ Ow w' 9 1 A ks.length c (ks.map fun s => str s) ∧ (∀ b,A = some b → it < b.block) ∧ Rg w' it r (fun s:Nm => str s) m (fun s => s ∉ ks) ∧ Nw w w') (f 3) w') (fun _ w' => rgN w' it r)
  ⟨[],none,0,rfl,List.nodup_nil,by simp,Ow.nil _ _ _,by simp,by simpa using hR,hk1⟩ ?_
 rintro f w' ⟨ks,A,c,f3,hnd,hin,hO,hA,hR,hK⟩
 have hkl:ks.length ≤ l.length:=hnd.length_le_of_subset hin
 rcases next_rg (P:=Tryz.prog) K.inj hR 0 with ⟨hend,hnext⟩ | ⟨a,v,w2,ha,hla,hnext,hR2,hK2,hN2,hentry⟩
 ·have hp:ks.Perm l:=(List.perm_ext_iff_of_nodup hnd nd).2 fun a => ⟨hin a,fun hal => by
   have:=(hm a).2 hal
   obtain ⟨v,hv⟩:=Option.isSome_iff_exists.1 this
   have:=hend a v hv
   simpa using this⟩
  have hsl:=srtN_perm hp hs
  have hll:ks.length = l.length:=hp.length_eq
  simp -dsimp [go_sem,hnext,f3]
  refine call (ssort_spec ks ks.length rfl (by omega) A c w' hO) ?_
  rintro v w3 ⟨rfl,hr3,k3⟩
  rw [hsl] at hr3
  have n3:Nw w w3:=hK.at_ k3 fun k hk => by
   obtain ⟨b,rfl,rfl⟩:=blk_of hk
   have:=hA b rfl; omega
  have hcl:=hO.2.1
  rw [hll] at f3 hcl
  simp -dsimp [go_sem,f3]
  exact ⟨n3,A,c,⟨rfl,rfl⟩,hr3,hcl,fun b hb => by have:=hA b hb; omega⟩
 ·have hal:a ∈ l:=(hm a).1 (by rw [ha]; rfl)
  have hK2':Nw w w2:=hK.at_ hK2 fun k (e:k = it) => by omega
  have hO2:=hO.kp hK2 fun b hb (e:b.block = it) => by have:=hA b hb; omega
  have hnd2:(ks ++ [a]).Nodup:=List.nodup_append.2 ⟨hnd,by simp,fun x hx y hy => by
   rw [List.mem_singleton.1 hy]
   rintro rfl
   exact hla hx⟩
  have hin2:∀ s ∈ ks ++ [a],s ∈ l:=fun s hs => by
   rcases List.mem_append.1 hs with hs | hs
   ·exact hin s hs
   ·rw [List.mem_singleton.1 hs]; exact hal
  have hkl2:=hnd2.length_le_of_subset hin2
  rw [List.length_append,List.length_singleton] at hkl2
  simp -dsimp [go_sem,hnext,hentry,f3]
  have ka:Nw w2 (w2.alloc (.cells #[str a] 9)):=(Kp.refl _ _).alloc _
  have hitl:it < w2.heap.size:=by have:=hR2.lt; omega
  refine app Tryz.Sstr (hO2.nw ka) (Rd.fresh rfl rfl) (m:=1) rfl (fun u hu => by rw [List.mem_singleton.1 hu]; rfl) (by omega) (by omega) ?_
  intro A' c' w3 ho hk hAA
  have hoff:∀ k,blk A k → it < k:=fun k hk => by
   obtain ⟨b,rfl,rfl⟩:=blk_of hk
   exact hA b rfl
  have hA':∀ b,A' = some b → it < b.block:=fun b hb => by
   rcases hAA with rfl | ⟨rfl,_⟩
   ·exact hA b hb
   ·cases hb; have:=ka.size; simp; omega
  obtain ⟨k1,hk1'⟩:∃ k1,k1 = ks.length + 1:=⟨_,rfl⟩
  have hlen:(ks ++ [a]).length = k1:=by simp [hk1']
  have kx:Kp (blk A) w2 w3:=(Nw.kp ka _).trans hk fun _ _ h => h
  obtain ⟨hR3,hN3⟩:=hR2.kp kx (fun e => by have:=hoff it e; omega) (fun e => by have:=hoff r e; omega)
  rw [← hk1'] at ho ⊢
  simp -dsimp [go_sem]
  exact ⟨⟨ks ++ [a],A',c',by rw [hlen],hnd2,hin2,by rw [hlen,List.map_append]; exact ho,hA',by simpa [not_or] using hR3,hK2'.at_ kx fun k hk => by have:=hoff k hk; omega⟩,by rw [hN3]; exact hN2⟩
end Go.Proofs.YtellahclbhfdiaaGreatDoor
