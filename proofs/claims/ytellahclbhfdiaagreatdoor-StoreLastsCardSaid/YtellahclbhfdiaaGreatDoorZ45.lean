/-
  StoreReopens walked. By the session itself. Two stores in one law, each on its own disk; StoreLasts walked. By the session itself.
-/
import Derived.Test.YtellahclbhfdiaaGreatDoorZ44
namespace Go.Proofs.YtellahclbhfdiaaGreatDoor
set_option linter.unusedSimpArgs false
set_option linter.unusedVariables false
set_option maxRecDepth 100000
set_option maxHeartbeats 2000000
open Go.Vc Go.RowKit
/-- A store that lives, its fuse unlit. -/
theorem Al.unlit {S:Sto} {u m k:Nat} (h:Al S u m k) (hl:S.D.left = none):∃ base data qs,S = ⟨S.D,⟨base,data,qs,false⟩,S.T,false⟩ ∧ Lz S.D base data qs u m ∧ Gd base data qs S.T ∧ base + qs.length ≤ k:=by
 obtain ⟨D0,lf,base,data,qs,h1,h2,h3,h4⟩:=h
 have hD:S.D = { D0 with left:=lf }:=by rw [h1]
 have hl2:lf = none:=by rw [hD] at hl; exact hl
 have h0:=h2.free.left
 have e:S.D = D0:=by
  rw [hD,hl2]
  obtain ⟨r,fs,l⟩:=D0
  simp only at h0 ⊢
  rw [h0]
 refine ⟨base,data,qs,?_,by rw [e]; exact h2,h3,h4⟩
 rw [h1]
theorem reopens_law (q:List CQ) (A:Option Addr) (ca:Nat) (w:World) (hr:Rd w A (q.flatMap ccells)) (hc:q.length ≤ ca) (hG:∀ p ∈ q,ChgG w p) (hql:q.length ≤ 140737488355328) :
  Cal Tryz.prog 5 #[.slice A q.length ca] w fun v w' => v = .bool true ∧ Nw w w':=by
 refine enter Tryz.mixed Tryz.func5 rfl (by kernel_rfl) ?_
 simp -dsimp [go_sem]
 refine loop [3,4,9,10,11,12,13,14,15,16,17,18,19,20,21,22,23,24,25] (by kernel_rfl)
  (fun f w' => Box2 (fun a b w' => ∃ i:Nat,a = i64 i ∧ i ≤ q.length ∧ i ≤ 60 ∧ b = i64 (heavyL q i) ∧ Nw w w') (f 4) (f 3) w') (fun f _ => q.length - (intOf (f 4)).toNat)
  ⟨0,rfl,Nat.zero_le _,Nat.zero_le _,rfl,Kp.refl _ _⟩ ?_
 rintro f w1 ⟨i,f4,hi,hi60,f3,k1⟩
 by_cases hlt:i < q.length ∧ i < 60
 ·obtain ⟨hlt,hlt60⟩:=hlt
  have hlt60':(i:Int) < 60:=by omega
  have hi1:IntKind.i64.wrap ((i:Int) + 1) = ((i + 1:Nat):Int):=by rw [w64 (by omega) (by omega)]; omega
  have hsum:IntKind.i64.wrap ((heavyL q i:Int) + (heavyN q[i].1:Int)) = ((heavyL q (i + 1):Nat):Int):=by
   have h1:=heavyL_le hG i hi
   have h2:=heavyN_le (hG q[i] (List.getElem_mem hlt))
   rw [heavyL_succ hlt,w64 (by omega) (by omega)]; omega
  obtain ⟨i1,hi1'⟩:∃ i1,i1 = i + 1:=⟨_,rfl⟩
  rw [← hi1'] at hi1 hsum
  have hr1:=hr.nw k1
  obtain ⟨gA,oA,rfl,hcell⟩:=chg_at hr1 hlt
  have e0:=hcell 0 _ rfl
  have e1:=hcell 1 _ rfl
  have e2:=hcell 2 _ rfl
  have e3:=hcell 3 _ rfl
  have e4:=hcell 4 _ rfl
  have e5:=hcell 5 _ rfl
  have e6:=hcell 6 _ rfl
  have e7:=hcell 7 _ rfl
  have e8:=hcell 8 _ rfl
  have e9:=hcell 9 _ rfl
  rw [Nat.add_zero] at e0
  have hg:=(hG q[i] (List.getElem_mem hlt)).sz
  generalize q[i] = X at *
  simp -dsimp [go_sem,f4,f3,hlt,hlt60,hlt60',e0,e1,e2,e3,e4,e5,e6,e7,e8,e9]
  refine call (heavy14_spec hg.2 hg.1 w1) ?_
  rintro v w2 ⟨rfl,k2⟩
  simp -dsimp [go_sem,f4,hi1,hsum]
  exact ⟨⟨i1,rfl,by omega,by omega,rfl,k1.nw k2⟩,by simp [intOf]; omega⟩
 ·by_cases hh:12000 < heavyL q i
  ·have hh':(12000:Int) < (heavyL q i:Int):=by omega
   by_cases h1:i < q.length
   ·have h60':¬ (i:Int) < 60:=by omega
    have h60n:¬ i < 60:=by omega
    simp -dsimp [go_sem,f4,h1,h60',h60n,f3,hh,hh']
    exact k1
   ·simp -dsimp [go_sem,f4,h1,f3,hh,hh']
    exact k1
  have hh':¬ (12000:Int) < (heavyL q i:Int):=by omega
  by_cases h1:i < q.length
  ·have h60':¬ (i:Int) < 60:=by omega
   have h60n:¬ i < 60:=by omega
   simp -dsimp [go_sem,f4,h1,h60',h60n,f3,hh,hh']
   refine call (begin_spec w1) ?_
   rintro v w2 ⟨p,g,x,s,t,l,qq,l2,F2,G2,V2,rfl,hp,hS,_⟩
   have n2:=k1.nw hS.on
   simp -dsimp [go_sem]
   refine loop [6,31,32,33,34,35,36,37,38,39,40,41,42,43,44,45,46,47,48,49] (by kernel_rfl)
    (fun f w' => Box1 (fun a w' => ∃ (j:Nat) (S:Sto),a = i64 j ∧ j ≤ i ∧ Al S (600000 * j) (2 * j) j ∧ S.D.left = none ∧ Blk w' p 49 #[.pointer (some ⟨g,0,none⟩),.pointer (some ⟨x,0,none⟩),.pointer (some ⟨s,0,none⟩),.pointer (some ⟨qq,0,none⟩)] ∧ Sm w1 w' s g l t S (fun k => k = qq ∨ V2 k) (fun k => k = p)) (f 6) w') (fun f _ => i - (intOf (f 6)).toNat)
    ⟨0,Sto.fresh,rfl,Nat.zero_le _,Al.fresh,rfl,hp,hS⟩ ?_
   clear hp hS n2
   rintro f' w3 ⟨j,S,f6,hj,hAl,hun,hp,hS⟩
   have hTok:S.T.Ok:=by
    obtain ⟨D0,lf,base,data,qs,h1,h2,h3,h4⟩:=hAl
    exact h3.ok
   by_cases hltj:j < i
   ·have hjq:j < q.length:=by omega
    have hj60:j < 60:=by omega
    have hj60':(j:Int) < 60:=by omega
    have hj1:IntKind.i64.wrap ((j:Int) + 1) = ((j + 1:Nat):Int):=by rw [w64 (by omega) (by omega)]; omega
    obtain ⟨j1,hj1'⟩:∃ j1,j1 = j + 1:=⟨_,rfl⟩
    rw [← hj1'] at hj1
    have hg:=hG q[j] (List.getElem_mem hjq)
    have hone:=heavyL_one hltj hi hjq
    have p2:=hp.cell 2
    have hr4:=hr.nw (k1.nw hS.on)
    have hg4:=hg.nw (k1.nw hS.on)
    obtain ⟨gA,oA,rfl,hcell⟩:=chg_at hr4 hjq
    have e0:=hcell 0 _ rfl
    have e1:=hcell 1 _ rfl
    have e2:=hcell 2 _ rfl
    have e3:=hcell 3 _ rfl
    have e4:=hcell 4 _ rfl
    have e5:=hcell 5 _ rfl
    have e6:=hcell 6 _ rfl
    have e7:=hcell 7 _ rfl
    have e8:=hcell 8 _ rfl
    have e9:=hcell 9 _ rfl
    rw [Nat.add_zero] at e0
    have hgz:=hg4.sz
    have hrc:=hg4.rc
    generalize q[j] = X at *
    have kd:Nw w3 w3.drew:=(Kp.refl _ _).drew
    have hpE:¬ Fu w1 (fun k => k = qq ∨ V2 k) (fun k => k = p) p:=fun e => e.2.2 rfl
    have hAE:¬ Fu w1 (fun k => k = qq ∨ V2 k) (fun k => k = p) gA:=fun e => by
     have e:=e.1
     have:=rd_old hr (ccells_ne hjq) _ rfl
     have h2:=k1.size
     simp at this; omega
    simp -dsimp [go_sem,f6,hjq,hj60,hj60']
    refine draw (.take 0 (.take 1 (.take 2 (.take 3 (.take 4 (.take 5 (.take 6 (.take 7 (.alt 8 .done .stop))))))))) (by kernel_rfl) (fun wz => Kp (Fu w1 (fun k => k = qq ∨ V2 k) (fun k => k = p)) w3 wz) (Nw.kp kd _) ?_
    simp -dsimp [go_sem,f6,hjq,p2,e0,e1,e2,e3,e4,e5,e6,e7,e8,e9]
    have hux:X.1.uids.length ≤ 1000000000:=by unfold heavyN at hone; omega
    refine ⟨fun wz hz => by simp [hz.cell_some p2 hpE],fun wz hz => by simp [hz.cell_some e0 hAE,hz.cell_some e1 hAE,hz.cell_some e2 hAE,hz.cell_some e3 hAE,hz.cell_some e4 hAE,hz.cell_some e5 hAE,hz.cell_some e6 hAE,hz.cell_some e7 hAE,hz.cell_some e8 hAE,hz.cell_some e9 hAE],?_⟩
    refine call ((hS.nw kd).do hTok (hg4.nw kd).rc hgz.1 hux) ?_
    have hstep:=hAl.step (fun k hk => by rw [hun] at hk; cases hk) X.1 (by omega) (by omega) (by omega)
    generalize doA S X.1 = R at *
    rintro v w5 ⟨rfl,hS5,k5⟩
    have k45:=(Nw.kp kd _).trans k5 fun _ _ h => h
    have hp5:=hp.kp k45 hpE
    refine ⟨k45,?_⟩
    rcases hstep with ⟨_,rfl⟩ | ⟨_,hne,rfl⟩ | ⟨_,he0,S',rfl,hT',hAl',hun'⟩ | ⟨_,_,hl,_⟩
    ·simp -dsimp [go_sem,f6,hj1]
     exact ⟨⟨j1,S,rfl,by omega,hAl.mono (by omega) (by omega) (by omega),hun,hp5,hS5⟩,by simp [intOf]; omega⟩
    ·simp -dsimp [go_sem,f6,hj1]
     exact ⟨⟨j1,S,rfl,by omega,hAl.mono (by omega) (by omega) (by omega),hun,hp5,hS5⟩,by simp [intOf]; omega⟩
    ·simp -dsimp [go_sem,f6,hj1]
     exact ⟨⟨j1,S',rfl,by omega,by rw [hj1']; exact hAl'.mono (by omega) (by omega) (by omega),hun' hun,hp5,hS5⟩,by simp [intOf]; omega⟩
    ·exact absurd hun hl
   ·obtain rfl:j = i:=by omega
    by_cases e:j < q.length
    ·have e60:¬ j < 60:=by omega
     have e60':¬ (j:Int) < 60:=by omega
     simp -dsimp [go_sem,f6,e,e60,e60']
     have p0:=hp.cell 0
     obtain ⟨base,data,qs,hSe,hLz,hGd,hbk⟩:=hAl.unlit hun
     obtain ⟨D',hop,hLz'⟩:=hLz.op (hGd.bq (by omega))
     obtain ⟨F,G,FS,V,a1,a2,a3,a4,a5⟩:=id hS
     simp -dsimp [go_sem,p0]
     refine call (sopen_gd g S.D D' base data qs S.T F w3 a1.ls.dk hop hGd) ?_
     rintro v w4 ⟨s2,l3,t2,F3,G3,FS3,V3,rfl,hS2,gV3,k4⟩
     obtain ⟨hSa,hSb⟩:=Sm.beside a1 a2 a3 a4 a5 hS2 gV3 k4
     have hp4:=hp.kp k4 fun e => (a5 p rfl).1 (a1.fv p e)
     have p2:=hp4.cell 2
     have kd:Nw w4 w4.drew:=(Kp.refl _ _).drew
     simp -dsimp [go_sem]
     refine draw (.take 0 (.take 1 (.take 2 (.take 3 (.take 4 (.take 5 (.take 6 (.take 7 (.take 9 (.take 10 (.take 11 (.take 12 (.alt 8 (.alt 13 (.take 14 (.take 15 (.take 16 (.take 17 (.take 19 (.take 20 (.take 21 (.take 22 (.alt 18 (.alt 23 (.alt 24 (.take 25 (.take 26 (.alt 27 (.take 28 (.take 29 .done)) .stop))) .stop) .stop) .stop))))))))) .stop) .stop))))))))))))) (by kernel_rfl) (fun wz => Nw w4 wz) kd ?_
     simp -dsimp [go_sem,p2]
     refine ⟨fun wz hz => by simp [hz.cell_some p2 fun h => h],?_⟩
     have hle4:=hTok.len
     have hkl:(keysA S.T.us).length ≤ 1000000:=by rw [keysA_len]; omega
     refine call ((hSb.nw kd).state hTok) ?_
     rintro v w5 ⟨rfl,k5⟩
     have n5:=kd.nw k5
     refine ⟨n5,?_⟩
     simp -dsimp [go_sem]
     refine call ((hSa.nw n5).state hTok) ?_
     rintro v w6 ⟨rfl,k6⟩
     have n6:=n5.nw k6
     have p26:=n6.cell_some p2 fun h => h
     refine ⟨n6,?_⟩
     have hss:(stateT S.T == stateT S.T) = true:=by simp
     simp -dsimp [go_sem,p26,hss]
     refine ⟨fun wz hz => by simp [hz.cell_some p2 fun h => h],?_⟩
     refine call ((hSb.nw n6).users hTok) ?_
     rintro v w7 ⟨k7,A7,c7,rfl,hr7,hc7,_⟩
     have n7:=n6.nw k7
     refine ⟨n7,?_⟩
     simp -dsimp [go_sem]
     refine call ((hSa.nw n7).users hTok) ?_
     rintro v w8 ⟨k8,A8,c8,rfl,hr8,hc8,_⟩
     have n8:=n7.nw k8
     refine ⟨n8,?_⟩
     simp -dsimp [go_sem]
     refine call (texts_spec (keysA S.T.us) (keysA S.T.us) A7 A8 c7 c8 w8 (hr7.nw k8) hr8 hkl hkl) ?_
     rintro v w9 ⟨rfl,k9⟩
     have n9:=n8.nw k9
     refine ⟨n9,?_⟩
     rw [decide_eq_true rfl]
     simp -dsimp [go_sem]
     refine call (stknown_spec w9) ?_
     rintro v w10 ⟨rfl,k10⟩
     have n10:=n9.nw k10
     refine ⟨n10,?_⟩
     simp -dsimp [go_sem]
     exact (k1.nw hSa.on).nw n10
    ·simp -dsimp [go_sem,f6,e]
     have p0:=hp.cell 0
     obtain ⟨base,data,qs,hSe,hLz,hGd,hbk⟩:=hAl.unlit hun
     obtain ⟨D',hop,hLz'⟩:=hLz.op (hGd.bq (by omega))
     obtain ⟨F,G,FS,V,a1,a2,a3,a4,a5⟩:=id hS
     simp -dsimp [go_sem,p0]
     refine call (sopen_gd g S.D D' base data qs S.T F w3 a1.ls.dk hop hGd) ?_
     rintro v w4 ⟨s2,l3,t2,F3,G3,FS3,V3,rfl,hS2,gV3,k4⟩
     obtain ⟨hSa,hSb⟩:=Sm.beside a1 a2 a3 a4 a5 hS2 gV3 k4
     have hp4:=hp.kp k4 fun e => (a5 p rfl).1 (a1.fv p e)
     have p2:=hp4.cell 2
     have kd:Nw w4 w4.drew:=(Kp.refl _ _).drew
     simp -dsimp [go_sem]
     refine draw (.take 0 (.take 1 (.take 2 (.take 3 (.take 4 (.take 5 (.take 6 (.take 7 (.take 9 (.take 10 (.take 11 (.take 12 (.alt 8 (.alt 13 (.take 14 (.take 15 (.take 16 (.take 17 (.take 19 (.take 20 (.take 21 (.take 22 (.alt 18 (.alt 23 (.alt 24 (.take 25 (.take 26 (.alt 27 (.take 28 (.take 29 .done)) .stop))) .stop) .stop) .stop))))))))) .stop) .stop))))))))))))) (by kernel_rfl) (fun wz => Nw w4 wz) kd ?_
     simp -dsimp [go_sem,p2]
     refine ⟨fun wz hz => by simp [hz.cell_some p2 fun h => h],?_⟩
     have hle4:=hTok.len
     have hkl:(keysA S.T.us).length ≤ 1000000:=by rw [keysA_len]; omega
     refine call ((hSb.nw kd).state hTok) ?_
     rintro v w5 ⟨rfl,k5⟩
     have n5:=kd.nw k5
     refine ⟨n5,?_⟩
     simp -dsimp [go_sem]
     refine call ((hSa.nw n5).state hTok) ?_
     rintro v w6 ⟨rfl,k6⟩
     have n6:=n5.nw k6
     have p26:=n6.cell_some p2 fun h => h
     refine ⟨n6,?_⟩
     have hss:(stateT S.T == stateT S.T) = true:=by simp
     simp -dsimp [go_sem,p26,hss]
     refine ⟨fun wz hz => by simp [hz.cell_some p2 fun h => h],?_⟩
     refine call ((hSb.nw n6).users hTok) ?_
     rintro v w7 ⟨k7,A7,c7,rfl,hr7,hc7,_⟩
     have n7:=n6.nw k7
     refine ⟨n7,?_⟩
     simp -dsimp [go_sem]
     refine call ((hSa.nw n7).users hTok) ?_
     rintro v w8 ⟨k8,A8,c8,rfl,hr8,hc8,_⟩
     have n8:=n7.nw k8
     refine ⟨n8,?_⟩
     simp -dsimp [go_sem]
     refine call (texts_spec (keysA S.T.us) (keysA S.T.us) A7 A8 c7 c8 w8 (hr7.nw k8) hr8 hkl hkl) ?_
     rintro v w9 ⟨rfl,k9⟩
     have n9:=n8.nw k9
     refine ⟨n9,?_⟩
     rw [decide_eq_true rfl]
     simp -dsimp [go_sem]
     refine call (stknown_spec w9) ?_
     rintro v w10 ⟨rfl,k10⟩
     have n10:=n9.nw k10
     refine ⟨n10,?_⟩
     simp -dsimp [go_sem]
     exact (k1.nw hSa.on).nw n10
  ·simp -dsimp [go_sem,f4,h1,f3,hh,hh']
   refine call (begin_spec w1) ?_
   rintro v w2 ⟨p,g,x,s,t,l,qq,l2,F2,G2,V2,rfl,hp,hS,_⟩
   have n2:=k1.nw hS.on
   simp -dsimp [go_sem]
   refine loop [6,31,32,33,34,35,36,37,38,39,40,41,42,43,44,45,46,47,48,49] (by kernel_rfl)
    (fun f w' => Box1 (fun a w' => ∃ (j:Nat) (S:Sto),a = i64 j ∧ j ≤ i ∧ Al S (600000 * j) (2 * j) j ∧ S.D.left = none ∧ Blk w' p 49 #[.pointer (some ⟨g,0,none⟩),.pointer (some ⟨x,0,none⟩),.pointer (some ⟨s,0,none⟩),.pointer (some ⟨qq,0,none⟩)] ∧ Sm w1 w' s g l t S (fun k => k = qq ∨ V2 k) (fun k => k = p)) (f 6) w') (fun f _ => i - (intOf (f 6)).toNat)
    ⟨0,Sto.fresh,rfl,Nat.zero_le _,Al.fresh,rfl,hp,hS⟩ ?_
   clear hp hS n2
   rintro f' w3 ⟨j,S,f6,hj,hAl,hun,hp,hS⟩
   have hTok:S.T.Ok:=by
    obtain ⟨D0,lf,base,data,qs,h1,h2,h3,h4⟩:=hAl
    exact h3.ok
   by_cases hltj:j < i
   ·have hjq:j < q.length:=by omega
    have hj60:j < 60:=by omega
    have hj60':(j:Int) < 60:=by omega
    have hj1:IntKind.i64.wrap ((j:Int) + 1) = ((j + 1:Nat):Int):=by rw [w64 (by omega) (by omega)]; omega
    obtain ⟨j1,hj1'⟩:∃ j1,j1 = j + 1:=⟨_,rfl⟩
    rw [← hj1'] at hj1
    have hg:=hG q[j] (List.getElem_mem hjq)
    have hone:=heavyL_one hltj hi hjq
    have p2:=hp.cell 2
    have hr4:=hr.nw (k1.nw hS.on)
    have hg4:=hg.nw (k1.nw hS.on)
    obtain ⟨gA,oA,rfl,hcell⟩:=chg_at hr4 hjq
    have e0:=hcell 0 _ rfl
    have e1:=hcell 1 _ rfl
    have e2:=hcell 2 _ rfl
    have e3:=hcell 3 _ rfl
    have e4:=hcell 4 _ rfl
    have e5:=hcell 5 _ rfl
    have e6:=hcell 6 _ rfl
    have e7:=hcell 7 _ rfl
    have e8:=hcell 8 _ rfl
    have e9:=hcell 9 _ rfl
    rw [Nat.add_zero] at e0
    have hgz:=hg4.sz
    have hrc:=hg4.rc
    generalize q[j] = X at *
    have kd:Nw w3 w3.drew:=(Kp.refl _ _).drew
    have hpE:¬ Fu w1 (fun k => k = qq ∨ V2 k) (fun k => k = p) p:=fun e => e.2.2 rfl
    have hAE:¬ Fu w1 (fun k => k = qq ∨ V2 k) (fun k => k = p) gA:=fun e => by
     have e:=e.1
     have:=rd_old hr (ccells_ne hjq) _ rfl
     have h2:=k1.size
     simp at this; omega
    simp -dsimp [go_sem,f6,hjq,hj60,hj60']
    refine draw (.take 0 (.take 1 (.take 2 (.take 3 (.take 4 (.take 5 (.take 6 (.take 7 (.alt 8 .done .stop))))))))) (by kernel_rfl) (fun wz => Kp (Fu w1 (fun k => k = qq ∨ V2 k) (fun k => k = p)) w3 wz) (Nw.kp kd _) ?_
    simp -dsimp [go_sem,f6,hjq,p2,e0,e1,e2,e3,e4,e5,e6,e7,e8,e9]
    have hux:X.1.uids.length ≤ 1000000000:=by unfold heavyN at hone; omega
    refine ⟨fun wz hz => by simp [hz.cell_some p2 hpE],fun wz hz => by simp [hz.cell_some e0 hAE,hz.cell_some e1 hAE,hz.cell_some e2 hAE,hz.cell_some e3 hAE,hz.cell_some e4 hAE,hz.cell_some e5 hAE,hz.cell_some e6 hAE,hz.cell_some e7 hAE,hz.cell_some e8 hAE,hz.cell_some e9 hAE],?_⟩
    refine call ((hS.nw kd).do hTok (hg4.nw kd).rc hgz.1 hux) ?_
    have hstep:=hAl.step (fun k hk => by rw [hun] at hk; cases hk) X.1 (by omega) (by omega) (by omega)
    generalize doA S X.1 = R at *
    rintro v w5 ⟨rfl,hS5,k5⟩
    have k45:=(Nw.kp kd _).trans k5 fun _ _ h => h
    have hp5:=hp.kp k45 hpE
    refine ⟨k45,?_⟩
    rcases hstep with ⟨_,rfl⟩ | ⟨_,hne,rfl⟩ | ⟨_,he0,S',rfl,hT',hAl',hun'⟩ | ⟨_,_,hl,_⟩
    ·simp -dsimp [go_sem,f6,hj1]
     exact ⟨⟨j1,S,rfl,by omega,hAl.mono (by omega) (by omega) (by omega),hun,hp5,hS5⟩,by simp [intOf]; omega⟩
    ·simp -dsimp [go_sem,f6,hj1]
     exact ⟨⟨j1,S,rfl,by omega,hAl.mono (by omega) (by omega) (by omega),hun,hp5,hS5⟩,by simp [intOf]; omega⟩
    ·simp -dsimp [go_sem,f6,hj1]
     exact ⟨⟨j1,S',rfl,by omega,by rw [hj1']; exact hAl'.mono (by omega) (by omega) (by omega),hun' hun,hp5,hS5⟩,by simp [intOf]; omega⟩
    ·exact absurd hun hl
   ·obtain rfl:j = i:=by omega
    by_cases e:j < q.length
    ·have e60:¬ j < 60:=by omega
     have e60':¬ (j:Int) < 60:=by omega
     simp -dsimp [go_sem,f6,e,e60,e60']
     have p0:=hp.cell 0
     obtain ⟨base,data,qs,hSe,hLz,hGd,hbk⟩:=hAl.unlit hun
     obtain ⟨D',hop,hLz'⟩:=hLz.op (hGd.bq (by omega))
     obtain ⟨F,G,FS,V,a1,a2,a3,a4,a5⟩:=id hS
     simp -dsimp [go_sem,p0]
     refine call (sopen_gd g S.D D' base data qs S.T F w3 a1.ls.dk hop hGd) ?_
     rintro v w4 ⟨s2,l3,t2,F3,G3,FS3,V3,rfl,hS2,gV3,k4⟩
     obtain ⟨hSa,hSb⟩:=Sm.beside a1 a2 a3 a4 a5 hS2 gV3 k4
     have hp4:=hp.kp k4 fun e => (a5 p rfl).1 (a1.fv p e)
     have p2:=hp4.cell 2
     have kd:Nw w4 w4.drew:=(Kp.refl _ _).drew
     simp -dsimp [go_sem]
     refine draw (.take 0 (.take 1 (.take 2 (.take 3 (.take 4 (.take 5 (.take 6 (.take 7 (.take 9 (.take 10 (.take 11 (.take 12 (.alt 8 (.alt 13 (.take 14 (.take 15 (.take 16 (.take 17 (.take 19 (.take 20 (.take 21 (.take 22 (.alt 18 (.alt 23 (.alt 24 (.take 25 (.take 26 (.alt 27 (.take 28 (.take 29 .done)) .stop))) .stop) .stop) .stop))))))))) .stop) .stop))))))))))))) (by kernel_rfl) (fun wz => Nw w4 wz) kd ?_
     simp -dsimp [go_sem,p2]
     refine ⟨fun wz hz => by simp [hz.cell_some p2 fun h => h],?_⟩
     have hle4:=hTok.len
     have hkl:(keysA S.T.us).length ≤ 1000000:=by rw [keysA_len]; omega
     refine call ((hSb.nw kd).state hTok) ?_
     rintro v w5 ⟨rfl,k5⟩
     have n5:=kd.nw k5
     refine ⟨n5,?_⟩
     simp -dsimp [go_sem]
     refine call ((hSa.nw n5).state hTok) ?_
     rintro v w6 ⟨rfl,k6⟩
     have n6:=n5.nw k6
     have p26:=n6.cell_some p2 fun h => h
     refine ⟨n6,?_⟩
     have hss:(stateT S.T == stateT S.T) = true:=by simp
     simp -dsimp [go_sem,p26,hss]
     refine ⟨fun wz hz => by simp [hz.cell_some p2 fun h => h],?_⟩
     refine call ((hSb.nw n6).users hTok) ?_
     rintro v w7 ⟨k7,A7,c7,rfl,hr7,hc7,_⟩
     have n7:=n6.nw k7
     refine ⟨n7,?_⟩
     simp -dsimp [go_sem]
     refine call ((hSa.nw n7).users hTok) ?_
     rintro v w8 ⟨k8,A8,c8,rfl,hr8,hc8,_⟩
     have n8:=n7.nw k8
     refine ⟨n8,?_⟩
     simp -dsimp [go_sem]
     refine call (texts_spec (keysA S.T.us) (keysA S.T.us) A7 A8 c7 c8 w8 (hr7.nw k8) hr8 hkl hkl) ?_
     rintro v w9 ⟨rfl,k9⟩
     have n9:=n8.nw k9
     refine ⟨n9,?_⟩
     rw [decide_eq_true rfl]
     simp -dsimp [go_sem]
     refine call (stknown_spec w9) ?_
     rintro v w10 ⟨rfl,k10⟩
     have n10:=n9.nw k10
     refine ⟨n10,?_⟩
     simp -dsimp [go_sem]
     exact (k1.nw hSa.on).nw n10
    ·simp -dsimp [go_sem,f6,e]
     have p0:=hp.cell 0
     obtain ⟨base,data,qs,hSe,hLz,hGd,hbk⟩:=hAl.unlit hun
     obtain ⟨D',hop,hLz'⟩:=hLz.op (hGd.bq (by omega))
     obtain ⟨F,G,FS,V,a1,a2,a3,a4,a5⟩:=id hS
     simp -dsimp [go_sem,p0]
     refine call (sopen_gd g S.D D' base data qs S.T F w3 a1.ls.dk hop hGd) ?_
     rintro v w4 ⟨s2,l3,t2,F3,G3,FS3,V3,rfl,hS2,gV3,k4⟩
     obtain ⟨hSa,hSb⟩:=Sm.beside a1 a2 a3 a4 a5 hS2 gV3 k4
     have hp4:=hp.kp k4 fun e => (a5 p rfl).1 (a1.fv p e)
     have p2:=hp4.cell 2
     have kd:Nw w4 w4.drew:=(Kp.refl _ _).drew
     simp -dsimp [go_sem]
     refine draw (.take 0 (.take 1 (.take 2 (.take 3 (.take 4 (.take 5 (.take 6 (.take 7 (.take 9 (.take 10 (.take 11 (.take 12 (.alt 8 (.alt 13 (.take 14 (.take 15 (.take 16 (.take 17 (.take 19 (.take 20 (.take 21 (.take 22 (.alt 18 (.alt 23 (.alt 24 (.take 25 (.take 26 (.alt 27 (.take 28 (.take 29 .done)) .stop))) .stop) .stop) .stop))))))))) .stop) .stop))))))))))))) (by kernel_rfl) (fun wz => Nw w4 wz) kd ?_
     simp -dsimp [go_sem,p2]
     refine ⟨fun wz hz => by simp [hz.cell_some p2 fun h => h],?_⟩
     have hle4:=hTok.len
     have hkl:(keysA S.T.us).length ≤ 1000000:=by rw [keysA_len]; omega
     refine call ((hSb.nw kd).state hTok) ?_
     rintro v w5 ⟨rfl,k5⟩
     have n5:=kd.nw k5
     refine ⟨n5,?_⟩
     simp -dsimp [go_sem]
     refine call ((hSa.nw n5).state hTok) ?_
     rintro v w6 ⟨rfl,k6⟩
     have n6:=n5.nw k6
     have p26:=n6.cell_some p2 fun h => h
     refine ⟨n6,?_⟩
     have hss:(stateT S.T == stateT S.T) = true:=by simp
     simp -dsimp [go_sem,p26,hss]
     refine ⟨fun wz hz => by simp [hz.cell_some p2 fun h => h],?_⟩
     refine call ((hSb.nw n6).users hTok) ?_
     rintro v w7 ⟨k7,A7,c7,rfl,hr7,hc7,_⟩
     have n7:=n6.nw k7
     refine ⟨n7,?_⟩
     simp -dsimp [go_sem]
     refine call ((hSa.nw n7).users hTok) ?_
     rintro v w8 ⟨k8,A8,c8,rfl,hr8,hc8,_⟩
     have n8:=n7.nw k8
     refine ⟨n8,?_⟩
     simp -dsimp [go_sem]
     refine call (texts_spec (keysA S.T.us) (keysA S.T.us) A7 A8 c7 c8 w8 (hr7.nw k8) hr8 hkl hkl) ?_
     rintro v w9 ⟨rfl,k9⟩
     have n9:=n8.nw k9
     refine ⟨n9,?_⟩
     rw [decide_eq_true rfl]
     simp -dsimp [go_sem]
     refine call (stknown_spec w9) ?_
     rintro v w10 ⟨rfl,k10⟩
     have n10:=n9.nw k10
     refine ⟨n10,?_⟩
     simp -dsimp [go_sem]
     exact (k1.nw hSa.on).nw n10
def Tw (w0 w:World) (s g l t:Nat) (S:Sto) (s' g' l' t':Nat) (S':Sto) (E:Nat → Prop):Prop:=∃ F G FS F' G' FS' V,StM w s g l t S F G FS V ∧ StM w s' g' l' t' S' F' G' FS' V ∧ (∀ k,V k → w0.heap.size ≤ k) ∧ Nw w0 w ∧
 (∀ k,(F k ∨ G k ∨ FS k ∨ k = s) → ¬ (F' k ∨ G' k ∨ FS' k ∨ k = s')) ∧ ∀ k,E k → ¬ V k ∧ k < w.heap.size
section
variable {w0 w w1:World} {s g l t s' g' l' t':Nat} {S S1 S':Sto} {E:Nat → Prop}
theorem Tw.swap (h:Tw w0 w s g l t S s' g' l' t' S' E):Tw w0 w s' g' l' t' S' s g l t S E:=by
 obtain ⟨F,G,FS,F',G',FS',V,a,b,c,d,e,f⟩:=h
 exact ⟨F',G',FS',F,G,FS,V,b,a,c,d,fun k hk hk' => e k hk' hk,f⟩
theorem Tw.nw (h:Tw w0 w s g l t S s' g' l' t' S' E) (k:Nw w w1):Tw w0 w1 s g l t S s' g' l' t' S' E:=by
 obtain ⟨F,G,FS,F',G',FS',V,a,b,c,d,e,f⟩:=h
 exact ⟨F,G,FS,F',G',FS',V,a.nw k,b.nw k,c,d.nw k,e,fun i hi => ⟨(f i hi).1,Nat.lt_of_lt_of_le (f i hi).2 k.size⟩⟩
theorem Tw.on (h:Tw w0 w s g l t S s' g' l' t' S' E):Nw w0 w:=by
 obtain ⟨F,G,FS,F',G',FS',V,a,b,c,d,e,f⟩:=h
 exact d
theorem Tw.sm (h:Tw w0 w s g l t S s' g' l' t' S' E):Sm w0 w s g l t S (fun _ => False) E:=by
 obtain ⟨F,G,FS,F',G',FS',V,a,b,c,d,e,f⟩:=h
 exact ⟨F,G,FS,V,a,c,d,fun _ h => h.elim,f⟩
theorem StM.all {F G FS V:Nat → Prop} (h:StM w s g l t S F G FS V):∀ k,(F k ∨ G k ∨ FS k ∨ k = s) → V k:=fun k hk => by
 rcases hk with hk | hk | hk | hk
 ·exact h.fv k hk
 ·exact h.gv k hk
 ·exact h.fsv k hk
 ·exact hk ▸ h.sv
theorem Tw.of {F G FS F' G' FS' V:Nat → Prop} (a:StM w s g l t S F G FS V) (b:StM w s' g' l' t' S' F' G' FS' V) (c:∀ k,V k → w0.heap.size ≤ k) (d:Nw w0 w) (e:∀ k,(F k ∨ G k ∨ FS k ∨ k = s) → ¬ (F' k ∨ G' k ∨ FS' k ∨ k = s'))
  (f:∀ k,E k → ¬ V k ∧ k < w.heap.size) (h:DoR w w1 s g l t S1 F G FS V):Tw w0 w1 s g l t S1 s' g' l' t' S' E ∧ Kp (Fu w0 (fun _ => False) E) w w1:=by
 obtain ⟨F1,G1,FS1,V1,h1,cs⟩:=h
 have ha:=a.all
 have hb:=b.all
 have hbl:=b.lt
 have b1:=b.step cs.kp (fun i hi => ⟨ha i hi,fun x => e i hi (.inl x),fun x => e i hi (.inr (.inl x)),fun x => e i hi (.inr (.inr (.inl x))),fun x => e i hi (.inr (.inr (.inr x)))⟩) cs.gV cs.vv
 refine ⟨⟨F1,G1,FS1,F',G',FS',V1,h1,b1,fun k hk => (cs.gV k hk).elim (c k) fun x => Nat.le_trans d.size x.1,d.at_ cs.kp fun k hk => c k (ha k hk),fun k hk hk' => ?_,fun k hk => ⟨fun x => (cs.gV k x).elim (f k hk).1 fun x => by have:=(f k hk).2; omega,Nat.lt_of_lt_of_le (f k hk).2 cs.kp.size⟩⟩,
  cs.kp.mono fun k _ hk => ⟨c k (ha k hk),fun x => x,fun x => (f k x).1 (ha k hk)⟩⟩
 have hkl:=hbl k (hb k hk')
 rcases hk with hk | hk | hk | hk
 ·exact (cs.gF k hk).elim (fun x => e k (.inl x) hk') fun x => by omega
 ·exact (cs.gG k hk).elim (fun x => e k (.inr (.inl x)) hk') fun x => by omega
 ·exact (cs.gS k hk).elim (fun x => e k (.inr (.inr (.inl x))) hk') fun x => by omega
 ·exact e k (.inr (.inr (.inr hk))) hk'
theorem Tw.do (h:Tw w0 w s g l t S s' g' l' t' S' E) (hT:S.T.Ok) {v:Value} {c:Chg} (hc:RC w v c (fun _ => False)) (hs:CSz c) (hu:c.uids.length ≤ 1000000000) :
  Cal Tryz.prog 16 #[.pointer (some ⟨s,0,none⟩),v] w fun v' w' => v' = .tuple #[i64 (doA S c).2.1,i64 (doA S c).2.2] ∧ Tw w0 w' s g l t (doA S c).1 s' g' l' t' S' E ∧ Kp (Fu w0 (fun _ => False) E) w w':=by
 obtain ⟨F,G,FS,F',G',FS',V,a,b,c',d,e,f⟩:=h
 refine (do_spec v c w a hT hc hs hu).mono ?_
 rintro v' w' ⟨e1,d1⟩
 exact ⟨e1,Tw.of a b c' d e f d1⟩
/-- The disk alone has turned. -/
theorem StM.disk {F G FS V:Nat → Prop} {D':Dsk} (h:StM w s g l t S F G FS V) (hd:Dk w1 g D' F) (k:Kp F w w1):DoR w w1 s g l t ⟨D',S.L,S.T,S.dead⟩ F G FS V :=
 h.led ⟨F,G,V,⟨hd,h.ls.lg.kp k fun i hi => ⟨h.fv i hi,h.ls.dj i hi⟩,h.ls.fv,h.ls.dj⟩,⟨fun _ h => .inl h,fun _ h => .inl h,fun _ h => .inl h,fun _ h => h,k.mono fun i _ hi => .inl hi⟩⟩ h.lok
theorem Tw.fuse (h:Tw w0 w s g l t S s' g' l' t' S' E) (n:Int) (hn:n ≤ 9223372036854775807) :
  Cal Tryz.prog 23 #[.pointer (some ⟨g,0,none⟩),i64 n] w fun v w' => v = .tuple #[] ∧ Tw w0 w' s g l t ⟨dFuse S.D n,S.L,S.T,S.dead⟩ s' g' l' t' S' E ∧ Kp (Fu w0 (fun _ => False) E) w w':=by
 obtain ⟨F,G,FS,F',G',FS',V,a,b,c,d,e,f⟩:=h
 refine (dfuse_spec n hn g S.D F w a.ls.dk).mono ?_
 rintro v w' ⟨e1,hd,k⟩
 have kF:Kp F w w':=k.mono fun i _ (x:i = g) => by
  obtain ⟨_,_,_,_,_,hM⟩:=a.ls.dk
  exact x ▸ hM.fg
 exact ⟨e1,Tw.of a b c d e f (a.disk hd kF)⟩
theorem Tw.fz (h:Tw w0 w s g l t S s' g' l' t' S' E):Fz S.D.left:=by
 obtain ⟨F,G,FS,F',G',FS',V,a,_⟩:=h
 exact a.ls.dk.ok.left
/-- Two begins. -/
theorem Tw.two {w2:World} {U1 U2 E1 E2:Nat → Prop} (h1:Sm w0 w s g l t Sto.fresh U1 E1) (h2:Sm w w2 s' g' l' t' Sto.fresh U2 E2) (hE1:∀ k,E k → E1 k ∨ E2 k ∧ w.heap.size ≤ k):Tw w0 w2 s g l t Sto.fresh s' g' l' t' Sto.fresh E:=by
 obtain ⟨F,G,FS,V,a,b,c,d,e⟩:=h1
 obtain ⟨F',G',FS',V',a',b',c',d',e'⟩:=h2
 have hVl:=a.lt
 have hVl':=a'.lt
 have hcs:=c'.size
 refine ⟨F,G,FS,F',G',FS',fun k => V k ∨ V' k,a.step c' (fun _ h => h.elim) (fun k hk => hk.imp id fun x => ⟨b' k x,hVl' k x⟩) fun k hk => .inl hk,a'.wide0 (fun k hk => .inr hk) fun k hk => hk.elim (fun x => Nat.lt_of_lt_of_le (hVl k x) hcs) (hVl' k),
  fun k hk => hk.elim (b k) fun x => Nat.le_trans c.size (b' k x),c.nw c',fun k hk hk' => ?_,fun k hk => ?_⟩
 ·have x1:=hVl k (a.all k hk)
  have x2:=b' k (a'.all k hk')
  omega
 ·rcases hE1 k hk with hk | ⟨hk,hk2⟩
  ·exact ⟨fun x => x.elim (e k hk).1 fun x => by have:=b' k x; have:=(e k hk).2; omega,by have:=(e k hk).2; omega⟩
  ·exact ⟨fun x => x.elim (fun x => by have:=hVl k x; omega) (e' k hk).1,(e' k hk).2⟩
end
end Go.Proofs.YtellahclbhfdiaaGreatDoor
