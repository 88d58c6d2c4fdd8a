/-
  StoreLasts walked. By the session itself.
-/
import Derived.Test.YtellahclbhfdiaaGreatDoorZ45
namespace Go.Proofs.YtellahclbhfdiaaGreatDoor
set_option linter.unusedSimpArgs false
set_option linter.unusedVariables false
set_option maxRecDepth 100000
set_option maxHeartbeats 2000000
open Go.Vc Go.RowKit
theorem Al.ok {S:Sto} {u m k:Nat} (h:Al S u m k):S.T.Ok ∧ S.dead = false:=by
 obtain ⟨D0,lf,base,data,qs,h1,h2,h3,h4⟩:=h
 exact ⟨h3.ok,by rw [h1]⟩
theorem Al.fuse {S:Sto} {u m k:Nat} (h:Al S u m k) (n:Int):Al ⟨dFuse S.D n,S.L,S.T,S.dead⟩ u m k:=by
 obtain ⟨D0,lf,base,data,qs,h1,h2,h3,h4⟩:=h
 refine ⟨D0,(if n < 0 then none else some n.toNat),base,data,qs,?_,h2,h3,h4⟩
 rw [h1]
 rfl
/-- Behind a loop of changes: what is now, what is next. -/
def AfterL (w0 w':World) (s g l t s' g' l' t':Nat) (E:Nat → Prop) (now next:Value):Prop:=∃ (S S':Sto) (Ta Tb:Stt),now = str (stateT Ta) ∧ next = str (stateT Tb) ∧ Tw w0 w' s g l t S s' g' l' t' S' E ∧ Dd S.D Ta Tb 40000000 200 100
theorem lasts_law (q:List CQ) (fuse dr:Int) (A:Option Addr) (ca:Nat) (w:World) (hr:Rd w A (q.flatMap ccells)) (hc:q.length ≤ ca) (hG:∀ p ∈ q,ChgG w p) (hql:q.length ≤ 140737488355328) (hfu:-9223372036854775808 ≤ fuse ∧ fuse ≤ 9223372036854775807) :
  Cal Tryz.prog 7 #[.slice A q.length ca,i64 fuse,i64 dr] w fun v w' => v = .bool true ∧ Nw w w':=by
 refine enter Tryz.mixed Tryz.func7 rfl (by kernel_rfl) ?_
 simp -dsimp [go_sem]
 refine loop [7,8,19,20,21,22,23,24,25,26,27,28,29,30,31,32,33,34,35] (by kernel_rfl)
  (fun f w' => Box2 (fun a b w' => ∃ i:Nat,a = i64 i ∧ i ≤ q.length ∧ i ≤ 60 ∧ b = i64 (heavyL q i) ∧ Nw w w') (f 8) (f 7) w') (fun f _ => q.length - (intOf (f 8)).toNat)
  ⟨0,rfl,Nat.zero_le _,Nat.zero_le _,rfl,Kp.refl _ _⟩ ?_
 rintro f w1 ⟨i,f8,hi,hi60,f7,k1⟩
 by_cases hlt:i < q.length ∧ i < 60
 ·obtain ⟨hlt,hlt60⟩:=hlt
  have hlt60':(i:Int) < 60:=by omega
  have hi1:IntKind.i64.wrap ((i:Int) + 1) = ((i + 1:Nat):Int):=by rw [w64 (by omega) (by omega)]; omega
  have hsum:IntKind.i64.wrap ((heavyL q i:Int) + (heavyN q[i].1:Int)) = ((heavyL q (i + 1):Nat):Int):=by
   have h1:=heavyL_le hG i hi
   have h2:=heavyN_le (hG q[i] (List.getElem_mem hlt))
   rw [heavyL_succ hlt,w64 (by omega) (by omega)]; omega
  obtain ⟨i1,hi1'⟩:∃ i1,i1 = i + 1:=⟨_,rfl⟩
  rw [← hi1'] at hi1 hsum
  have hr1:=hr.nw k1
  obtain ⟨gA,oA,rfl,hcell⟩:=chg_at hr1 hlt
  have e0:=hcell 0 _ rfl
  have e1:=hcell 1 _ rfl
  have e2:=hcell 2 _ rfl
  have e3:=hcell 3 _ rfl
  have e4:=hcell 4 _ rfl
  have e5:=hcell 5 _ rfl
  have e6:=hcell 6 _ rfl
  have e7:=hcell 7 _ rfl
  have e8:=hcell 8 _ rfl
  have e9:=hcell 9 _ rfl
  rw [Nat.add_zero] at e0
  have hg:=(hG q[i] (List.getElem_mem hlt)).sz
  generalize q[i] = X at *
  simp -dsimp [go_sem,f8,f7,hlt,hlt60,hlt60',e0,e1,e2,e3,e4,e5,e6,e7,e8,e9]
  refine call (heavy14_spec hg.2 hg.1 w1) ?_
  rintro v w2 ⟨rfl,k2⟩
  simp -dsimp [go_sem,f8,hi1,hsum]
  exact ⟨⟨i1,rfl,by omega,by omega,rfl,k1.nw k2⟩,by simp [intOf]; omega⟩
 ·by_cases hh:12000 < heavyL q i ∨ fuse < 0
  ·by_cases hh1:12000 < heavyL q i
   ·have hh':(12000:Int) < (heavyL q i:Int):=by omega
    by_cases h1:i < q.length
    ·have h60':¬ (i:Int) < 60:=by omega
     have h60n:¬ i < 60:=by omega
     simp -dsimp [go_sem,f8,h1,h60',h60n,f7,hh1,hh']
     exact k1
    ·simp -dsimp [go_sem,f8,h1,f7,hh1,hh']
     exact k1
   ·have hh':¬ (12000:Int) < (heavyL q i:Int):=by omega
    have hf0:fuse < 0:=by omega
    by_cases h1:i < q.length
    ·have h60':¬ (i:Int) < 60:=by omega
     have h60n:¬ i < 60:=by omega
     simp -dsimp [go_sem,f8,h1,h60',h60n,f7,hh1,hh',hf0]
     exact k1
    ·simp -dsimp [go_sem,f8,h1,f7,hh1,hh',hf0]
     exact k1
  have hh1:¬ 12000 < heavyL q i:=by omega
  have hh':¬ (12000:Int) < (heavyL q i:Int):=by omega
  have hf0:¬ fuse < 0:=by omega
  by_cases h1:i < q.length
  ·have h60':¬ (i:Int) < 60:=by omega
   have h60n:¬ i < 60:=by omega
   simp -dsimp [go_sem,f8,h1,h60',h60n,f7,hh1,hh',hf0]
   have hnx:¬ fuse < 0:=by omega
   refine call (begin_spec w1) ?_
   rintro v w2 ⟨p,g,x,s,t,l,qq,l2,F2,G2,V2,rfl,hp,hS,_⟩
   simp -dsimp [go_sem]
   refine call (begin_spec w2) ?_
   rintro v w3 ⟨p',g',x',s',t',l',qq',l2',F2',G2',V2',rfl,hp',hS',_,_,_,_,_,_,hpn',_⟩
   have hpl:=hp.lt
   have hs2:=hS'.on.size
   have hpw1:w1.heap.size ≤ w2.heap.size:=hS.on.size
   have hT3:Tw w1 w3 s g l t Sto.fresh s' g' l' t' Sto.fresh (fun k => k = p ∨ k = p'):=Tw.two hS hS' fun k hk => hk.imp id fun e => ⟨e,by rw [e]; exact hpn'⟩
   have hp3:=hp.nw hS'.on
   have p0:=hp3.cell 0
   clear hS hS'
   simp -dsimp [go_sem,p0]
   refine call (hT3.fuse fuse (by omega)) ?_
   rintro v w4 ⟨rfl,hT4,k4⟩
   have hpE:∀ {k},(k = p ∨ k = p') → ¬ Fu w1 (fun _ => False) (fun k => k = p ∨ k = p') k:=fun hk e => e.2.2 hk
   have hp4:=hp3.kp k4 (hpE (.inl rfl))
   have hp4':=hp'.kp k4 (hpE (.inr rfl))
   have hA4:Al ⟨dFuse Sto.fresh.D fuse,Sto.fresh.L,Sto.fresh.T,Sto.fresh.dead⟩ 0 0 0:=Al.fresh.fuse fuse
   simp -dsimp [go_sem]
   refine loopx 2 [11,12,13,14,15,56,57,58,59,60,61,62,63,64,65,66,67,68,69,70,71,72,73,74,75,76,77,78,79,80,81,82,83,84,85,86,87,88,89,90,91,92,93,94,95,96,97,98,99,100,101,102,103,104] (by kernel_rfl)
    (fun f w' => Box3 (fun a b c w' => ∃ (j:Nat) (S S':Sto),a = str (stateT S.T) ∧ b = str (stateT S.T) ∧ c = i64 j ∧ j ≤ i ∧ S'.T = S.T ∧ Al S (600000 * j) (2 * j) j ∧ Al S' (600000 * j) (2 * j) j ∧ S'.D.left = none ∧ Tw w1 w' s g l t S s' g' l' t' S' (fun k => k = p ∨ k = p') ∧
     Blk w' p 49 #[.pointer (some ⟨g,0,none⟩),.pointer (some ⟨x,0,none⟩),.pointer (some ⟨s,0,none⟩),.pointer (some ⟨qq,0,none⟩)] ∧ Blk w' p' 49 #[.pointer (some ⟨g',0,none⟩),.pointer (some ⟨x',0,none⟩),.pointer (some ⟨s',0,none⟩),.pointer (some ⟨qq',0,none⟩)]) (f 11) (f 12) (f 13) w') (fun f _ => i - (intOf (f 13)).toNat)
    (fun f w' => Box2 (fun a b w' => AfterL w1 w' s g l t s' g' l' t' (fun k => k = p ∨ k = p') a b ∧ Blk w' p 49 #[.pointer (some ⟨g,0,none⟩),.pointer (some ⟨x,0,none⟩),.pointer (some ⟨s,0,none⟩),.pointer (some ⟨qq,0,none⟩)]) (f 11) (f 12) w')
    ⟨0,⟨dFuse Sto.fresh.D fuse,Sto.fresh.L,Sto.fresh.T,Sto.fresh.dead⟩,Sto.fresh,rfl,rfl,rfl,Nat.zero_le _,rfl,hA4,Al.fresh,rfl,hT4,hp4,hp4'⟩ ?_ ?_
   ·clear hp hp' hp3 hp4 hp4' hA4 hT3 hT4 p0
    rintro f' w5 ⟨j,S,S',f11,f12,f13,hj,hTT,hAl,hAl',hun,hT5,hp,hp'⟩
    have hTok:=hAl.ok
    have hTok':=hAl'.ok
    by_cases hltj:j < i
    ·have hjq:j < q.length:=by omega
     have hj60:j < 60:=by omega
     have hj60':(j:Int) < 60:=by omega
     have hj1:IntKind.i64.wrap ((j:Int) + 1) = ((j + 1:Nat):Int):=by rw [w64 (by omega) (by omega)]; omega
     obtain ⟨j1,hj1'⟩:∃ j1,j1 = j + 1:=⟨_,rfl⟩
     rw [← hj1'] at hj1
     have hg:=hG q[j] (List.getElem_mem hjq)
     have hone:=heavyL_one hltj hi hjq
     have p2:=hp.cell 2
     have p2':=hp'.cell 2
     have hr5:=hr.nw (k1.nw hT5.on)
     have hg5:=hg.nw (k1.nw hT5.on)
     obtain ⟨gA,oA,rfl,hcell⟩:=chg_at hr5 hjq
     have e0:=hcell 0 _ rfl
     have e1:=hcell 1 _ rfl
     have e2:=hcell 2 _ rfl
     have e3:=hcell 3 _ rfl
     have e4:=hcell 4 _ rfl
     have e5:=hcell 5 _ rfl
     have e6:=hcell 6 _ rfl
     have e7:=hcell 7 _ rfl
     have e8:=hcell 8 _ rfl
     have e9:=hcell 9 _ rfl
     rw [Nat.add_zero] at e0
     have hgz:=hg5.sz
     have hrc:=hg5.rc
     have hAE:¬ Fu w1 (fun _ => False) (fun k => k = p ∨ k = p') gA:=fun e => by
      have e:=e.1
      have:=rd_old hr (ccells_ne hjq) _ rfl
      have h2:=k1.size
      simp at this; omega
     generalize q[j] = X at *
     have hux:X.1.uids.length ≤ 1000000000:=by unfold heavyN at hone; omega
     have kd:Nw w5 w5.drew:=(Kp.refl _ _).drew
     have hpp:=hpE (k:=p) (.inl rfl)
     have hpp':=hpE (k:=p') (.inr rfl)
     simp -dsimp [go_sem,f13,hjq,hj60,hj60']
     refine draw (.take 0 (.take 1 (.take 2 (.take 3 (.take 4 (.take 5 (.take 6 (.take 7 (.alt 8 (.take 9 (.take 10 (.take 11 (.take 12 (.take 13 .done))))) .stop))))))))) (by kernel_rfl) (fun wz => Kp (Fu w1 (fun _ => False) (fun k => k = p ∨ k = p')) w5 wz) (Nw.kp kd _) ?_
     simp -dsimp [go_sem,f13,hjq,p2,e0,e1,e2,e3,e4,e5,e6,e7,e8,e9]
     refine ⟨fun wz hz => by simp [hz.cell_some p2 hpp],fun wz hz => by simp [hz.cell_some e0 hAE,hz.cell_some e1 hAE,hz.cell_some e2 hAE,hz.cell_some e3 hAE,hz.cell_some e4 hAE,hz.cell_some e5 hAE,hz.cell_some e6 hAE,hz.cell_some e7 hAE,hz.cell_some e8 hAE,hz.cell_some e9 hAE],?_⟩
     refine call ((hT5.nw kd).do hTok.1 (hg5.nw kd).rc hgz.1 hux) ?_
     have hstep:=hAl.step hT5.fz X.1 (by omega) (by omega) (by omega)
     have hstep':=hAl'.step hT5.swap.fz X.1 (by omega) (by omega) (by omega)
     rw [hTT] at hstep'
     generalize doA S X.1 = R at *
     rintro v w6 ⟨rfl,hT6,k6⟩
     have k56:=(Nw.kp kd _).trans k6 fun _ _ h => h
     refine ⟨k56,?_⟩
     have p26':=k56.cell_some p2' hpp'
     have hp6:=hp.kp k56 hpp
     have hp6':=hp'.kp k56 hpp'
     have hg6:=hg.nw (k1.nw hT6.on)
     have n01:=k1.nw hT6.on
     have kd6:Nw w6 w6.drew:=(Kp.refl _ _).drew
     have p26':=hp6'.cell 2
     have d0:=k56.cell_some e0 hAE
     have d1:=k56.cell_some e1 hAE
     have d2:=k56.cell_some e2 hAE
     have d3:=k56.cell_some e3 hAE
     have d4:=k56.cell_some e4 hAE
     have d5:=k56.cell_some e5 hAE
     have d6:=k56.cell_some e6 hAE
     have d7:=k56.cell_some e7 hAE
     have d8:=k56.cell_some e8 hAE
     have d9:=k56.cell_some e9 hAE
     simp -dsimp [go_sem]
     refine draw (.take 0 (.take 1 (.take 2 (.take 3 (.take 4 (.take 5 (.take 6 (.take 7 (.alt 8 .done .stop))))))))) (by kernel_rfl) (fun wz => Kp (Fu w1 (fun _ => False) (fun k => k = p ∨ k = p')) w6 wz) (Nw.kp kd6 _) ?_
     simp -dsimp [go_sem,f13,hjq,p26',d0,d1,d2,d3,d4,d5,d6,d7,d8,d9]
     refine ⟨fun wz hz => by simp [hz.cell_some p26' hpp'],fun wz hz => by simp [hz.cell_some d0 hAE,hz.cell_some d1 hAE,hz.cell_some d2 hAE,hz.cell_some d3 hAE,hz.cell_some d4 hAE,hz.cell_some d5 hAE,hz.cell_some d6 hAE,hz.cell_some d7 hAE,hz.cell_some d8 hAE,hz.cell_some d9 hAE],?_⟩
     have hcd:=(hT6.nw kd6).swap.do hTok'.1 (hg6.nw kd6).rc hgz.1 hux
     generalize doA S' X.1 = R' at *
     refine call hcd ?_
     rintro v w7 ⟨rfl,hT7,k7⟩
     have k67:=(Nw.kp kd6 _).trans k7 fun _ _ h => h
     have hp7:=hp6.kp k67 hpp
     have hp7':=hp6'.kp k67 hpp'
     have hT7:=hT7.swap
     refine ⟨k67,?_⟩
     have p27:=hp7.cell 2
     have p27':=hp7'.cell 2
     rcases hstep with ⟨c1,rfl⟩ | ⟨c1,c2,rfl⟩ | ⟨c1,c2,S1,rfl,hT',hAl1,_⟩ | ⟨c1,c2,_,S1,rfl,hdd,hDd⟩
     ·rcases hstep' with ⟨_,rfl⟩ | ⟨d1,_⟩ | ⟨d1,_⟩ | ⟨d1,_⟩
      ·have hsm:=hT7.sm
       simp -dsimp [go_sem,p27]
       refine call hsm.dead ?_
       rintro v w8 ⟨rfl,rfl⟩
       rw [hTok.2]
       simp -dsimp [go_sem,f13,hj1,f11,f12]
       exact ⟨⟨j1,S,S',rfl,rfl,rfl,by omega,hTT,hAl.mono (by omega) (by omega) (by omega),hAl'.mono (by omega) (by omega) (by omega),hun,hT7,hp7,hp7'⟩,by simp [intOf]; omega⟩
      ·rw [c1] at d1; cases d1
      ·rw [c1] at d1; cases d1
      ·rw [c1] at d1; cases d1
     ·rcases hstep' with ⟨d1,_⟩ | ⟨_,_,rfl⟩ | ⟨_,d2,_⟩ | ⟨_,d2,_⟩
      ·rw [c1] at d1; cases d1
      ·have hsm:=hT7.sm
       generalize (plan S.T X.1).1 = e at *
       have hne':(e == 0) = false:=by simpa using c2
       simp -dsimp [go_sem,p27,hne']
       refine call hsm.dead ?_
       rintro v w8 ⟨rfl,rfl⟩
       rw [hTok.2]
       simp -dsimp [go_sem,f13,hj1,f11,f12]
       exact ⟨⟨j1,S,S',rfl,rfl,rfl,by omega,hTT,hAl.mono (by omega) (by omega) (by omega),hAl'.mono (by omega) (by omega) (by omega),hun,hT7,hp7,hp7'⟩,by simp [intOf]; omega⟩
      ·exact absurd d2 c2
      ·exact absurd d2 c2
     ·rcases hstep' with ⟨d1,_⟩ | ⟨_,d2,_⟩ | ⟨_,_,S1',rfl,hT1',hAl1',hun'⟩ | ⟨_,_,hl,_⟩
      ·rw [c1] at d1; cases d1
      ·exact absurd c2 d2
      ·have hsm:=hT7.sm
       have hok1:=hAl1.ok
       simp -dsimp [go_sem,p27]
       refine call (hsm.state hok1.1) ?_
       rintro v w8 ⟨rfl,k8⟩
       have hT8:=hT7.nw k8
       have hp8:=hp7.nw k8
       have p28:=hp8.cell 2
       simp -dsimp [go_sem,p28]
       refine call hT8.sm.dead ?_
       rintro v w9 ⟨rfl,rfl⟩
       rw [hok1.2]
       simp -dsimp [go_sem,f13,hj1,f11,f12]
       exact ⟨⟨j1,S1,S1',rfl,rfl,rfl,by omega,by rw [hT1',hT'],by rw [hj1']; exact hAl1.mono (by omega) (by omega) (by omega),by rw [hj1']; exact hAl1'.mono (by omega) (by omega) (by omega),hun' hun,hT8,hp8,hp7'.nw k8⟩,by simp [intOf]; omega⟩
      ·exact absurd hun hl
     ·rcases hstep' with ⟨d1,_⟩ | ⟨_,d2,_⟩ | ⟨_,_,S1',rfl,hT1',hAl1',hun'⟩ | ⟨_,_,hl,_⟩
      ·rw [c1] at d1; cases d1
      ·exact absurd c2 d2
      ·have hok1:=hAl1'.ok
       simp -dsimp [go_sem,p27]
       refine call hT7.sm.dead ?_
       rintro v w8 ⟨rfl,rfl⟩
       rw [hdd]
       simp -dsimp [go_sem,p27']
       refine call (hT7.swap.sm.state hok1.1) ?_
       rintro v w9 ⟨rfl,k9⟩
       simp -dsimp [go_sem,f11]
       exact ⟨⟨S1,S1',S.T,(plan S.T X.1).2.2,rfl,by rw [hT1'],hT7.nw k9,hDd.mono (by omega) (by omega) (by omega)⟩,hp7.nw k9⟩
      ·exact absurd hun hl
    ·obtain rfl:j = i:=by omega
     have haf:AfterL w1 w5 s g l t s' g' l' t' (fun k => k = p ∨ k = p') (f' 11) (f' 12):=⟨S,S',S.T,S.T,f11,f12,hT5,(hAl.dd (by omega) S.T).mono (by omega) (by omega) (by omega)⟩
     by_cases e:j < q.length
     ·have e60:¬ j < 60:=by omega
      have e60':¬ (j:Int) < 60:=by omega
      simp -dsimp [go_sem,f13,e,e60,e60']
      exact ⟨haf,hp⟩
     ·simp -dsimp [go_sem,f13,e]
      exact ⟨haf,hp⟩
   ·clear hp hp' hp3 hp4 hp4' hA4 hT3 hT4 p0
    rintro f' w5 ⟨⟨S,S',Ta,Tb,f11,f12,hT5,hDd⟩,hp⟩
    have p0:=hp.cell 0
    obtain ⟨F,G,FS,F',G',FS',V,a1,b1,c1,d1,e1,y1⟩:=id hT5
    simp -dsimp [go_sem,p0]
    refine call (dcrash_spec dr g S.D F w5 a1.ls.dk) ?_
    rintro v w6 ⟨rfl,hD6,k6⟩
    obtain ⟨D4,b4,d4,q4,T4,ho4,hz4,hg4,hT4,hb4⟩:=hDd dr hD6.ok
    have hp6:=hp.kp k6 fun e => (y1 p (.inl rfl)).1 (a1.fv p e)
    have p06:=hp6.cell 0
    simp -dsimp [go_sem,p06]
    refine call (sopen_gd g _ D4 b4 d4 q4 T4 F w6 hD6 ho4 hg4) ?_
    rintro v w7 ⟨s2,l3,t2,F3,G3,FS3,V3,rfl,hS2,gV3,k7⟩
    have n6:Nw w1 w6:=d1.at_ k6 fun k hk => c1 k (a1.fv k hk)
    have n7:Nw w1 w7:=n6.at_ k7 fun k hk => c1 k (a1.fv k hk)
    have hSm:Sm w1 w7 s2 g l3 t2 ⟨D4,⟨b4,d4,q4,false⟩,T4,false⟩ (fun _ => False) (fun _ => False):=⟨F3,G3,FS3,V3,hS2,fun k hk => (gV3 k hk).elim (fun e => c1 k (a1.fv k e)) fun e => Nat.le_trans n6.size e.1,n7,fun _ h => h.elim,fun _ h => h.elim⟩
    simp -dsimp [go_sem]
    refine call (hSm.state hg4.ok) ?_
    rintro v w8 ⟨rfl,k8⟩
    have n8:=k1.nw (n7.nw k8)
    have hself:∀ T:Stt,(stateT T == stateT T) = true:=fun T => by simp
    rcases hT4 with rfl | rfl
    ·have hs:=hself T4
     simp -dsimp [go_sem,f11,hs]
     refine call (stknown_spec w8) ?_
     rintro v w9 ⟨rfl,k9⟩
     simp -dsimp [go_sem]
     exact n8.nw k9
    ·have hs:=hself T4
     cases hq:(stateT T4 == stateT Ta) with
     | true =>
      simp -dsimp [go_sem,f11,hq]
      refine call (stknown_spec w8) ?_
      rintro v w9 ⟨rfl,k9⟩
      simp -dsimp [go_sem]
      exact n8.nw k9
     | false =>
      simp -dsimp [go_sem,f11,f12,hq,hs]
      refine call (stknown_spec w8) ?_
      rintro v w9 ⟨rfl,k9⟩
      simp -dsimp [go_sem]
      exact n8.nw k9
  ·simp -dsimp [go_sem,f8,h1,f7,hh1,hh',hf0]
   have hnx:¬ fuse < 0:=by omega
   refine call (begin_spec w1) ?_
   rintro v w2 ⟨p,g,x,s,t,l,qq,l2,F2,G2,V2,rfl,hp,hS,_⟩
   simp -dsimp [go_sem]
   refine call (begin_spec w2) ?_
   rintro v w3 ⟨p',g',x',s',t',l',qq',l2',F2',G2',V2',rfl,hp',hS',_,_,_,_,_,_,hpn',_⟩
   have hpl:=hp.lt
   have hs2:=hS'.on.size
   have hpw1:w1.heap.size ≤ w2.heap.size:=hS.on.size
   have hT3:Tw w1 w3 s g l t Sto.fresh s' g' l' t' Sto.fresh (fun k => k = p ∨ k = p'):=Tw.two hS hS' fun k hk => hk.imp id fun e => ⟨e,by rw [e]; exact hpn'⟩
   have hp3:=hp.nw hS'.on
   have p0:=hp3.cell 0
   clear hS hS'
   simp -dsimp [go_sem,p0]
   refine call (hT3.fuse fuse (by omega)) ?_
   rintro v w4 ⟨rfl,hT4,k4⟩
   have hpE:∀ {k},(k = p ∨ k = p') → ¬ Fu w1 (fun _ => False) (fun k => k = p ∨ k = p') k:=fun hk e => e.2.2 hk
   have hp4:=hp3.kp k4 (hpE (.inl rfl))
   have hp4':=hp'.kp k4 (hpE (.inr rfl))
   have hA4:Al ⟨dFuse Sto.fresh.D fuse,Sto.fresh.L,Sto.fresh.T,Sto.fresh.dead⟩ 0 0 0:=Al.fresh.fuse fuse
   simp -dsimp [go_sem]
   refine loopx 2 [11,12,13,14,15,56,57,58,59,60,61,62,63,64,65,66,67,68,69,70,71,72,73,74,75,76,77,78,79,80,81,82,83,84,85,86,87,88,89,90,91,92,93,94,95,96,97,98,99,100,101,102,103,104] (by kernel_rfl)
    (fun f w' => Box3 (fun a b c w' => ∃ (j:Nat) (S S':Sto),a = str (stateT S.T) ∧ b = str (stateT S.T) ∧ c = i64 j ∧ j ≤ i ∧ S'.T = S.T ∧ Al S (600000 * j) (2 * j) j ∧ Al S' (600000 * j) (2 * j) j ∧ S'.D.left = none ∧ Tw w1 w' s g l t S s' g' l' t' S' (fun k => k = p ∨ k = p') ∧
     Blk w' p 49 #[.pointer (some ⟨g,0,none⟩),.pointer (some ⟨x,0,none⟩),.pointer (some ⟨s,0,none⟩),.pointer (some ⟨qq,0,none⟩)] ∧ Blk w' p' 49 #[.pointer (some ⟨g',0,none⟩),.pointer (some ⟨x',0,none⟩),.pointer (some ⟨s',0,none⟩),.pointer (some ⟨qq',0,none⟩)]) (f 11) (f 12) (f 13) w') (fun f _ => i - (intOf (f 13)).toNat)
    (fun f w' => Box2 (fun a b w' => AfterL w1 w' s g l t s' g' l' t' (fun k => k = p ∨ k = p') a b ∧ Blk w' p 49 #[.pointer (some ⟨g,0,none⟩),.pointer (some ⟨x,0,none⟩),.pointer (some ⟨s,0,none⟩),.pointer (some ⟨qq,0,none⟩)]) (f 11) (f 12) w')
    ⟨0,⟨dFuse Sto.fresh.D fuse,Sto.fresh.L,Sto.fresh.T,Sto.fresh.dead⟩,Sto.fresh,rfl,rfl,rfl,Nat.zero_le _,rfl,hA4,Al.fresh,rfl,hT4,hp4,hp4'⟩ ?_ ?_
   ·clear hp hp' hp3 hp4 hp4' hA4 hT3 hT4 p0
    rintro f' w5 ⟨j,S,S',f11,f12,f13,hj,hTT,hAl,hAl',hun,hT5,hp,hp'⟩
    have hTok:=hAl.ok
    have hTok':=hAl'.ok
    by_cases hltj:j < i
    ·have hjq:j < q.length:=by omega
     have hj60:j < 60:=by omega
     have hj60':(j:Int) < 60:=by omega
     have hj1:IntKind.i64.wrap ((j:Int) + 1) = ((j + 1:Nat):Int):=by rw [w64 (by omega) (by omega)]; omega
     obtain ⟨j1,hj1'⟩:∃ j1,j1 = j + 1:=⟨_,rfl⟩
     rw [← hj1'] at hj1
     have hg:=hG q[j] (List.getElem_mem hjq)
     have hone:=heavyL_one hltj hi hjq
     have p2:=hp.cell 2
     have p2':=hp'.cell 2
     have hr5:=hr.nw (k1.nw hT5.on)
     have hg5:=hg.nw (k1.nw hT5.on)
     obtain ⟨gA,oA,rfl,hcell⟩:=chg_at hr5 hjq
     have e0:=hcell 0 _ rfl
     have e1:=hcell 1 _ rfl
     have e2:=hcell 2 _ rfl
     have e3:=hcell 3 _ rfl
     have e4:=hcell 4 _ rfl
     have e5:=hcell 5 _ rfl
     have e6:=hcell 6 _ rfl
     have e7:=hcell 7 _ rfl
     have e8:=hcell 8 _ rfl
     have e9:=hcell 9 _ rfl
     rw [Nat.add_zero] at e0
     have hgz:=hg5.sz
     have hrc:=hg5.rc
     have hAE:¬ Fu w1 (fun _ => False) (fun k => k = p ∨ k = p') gA:=fun e => by
      have e:=e.1
      have:=rd_old hr (ccells_ne hjq) _ rfl
      have h2:=k1.size
      simp at this; omega
     generalize q[j] = X at *
     have hux:X.1.uids.length ≤ 1000000000:=by unfold heavyN at hone; omega
     have kd:Nw w5 w5.drew:=(Kp.refl _ _).drew
     have hpp:=hpE (k:=p) (.inl rfl)
     have hpp':=hpE (k:=p') (.inr rfl)
     simp -dsimp [go_sem,f13,hjq,hj60,hj60']
     refine draw (.take 0 (.take 1 (.take 2 (.take 3 (.take 4 (.take 5 (.take 6 (.take 7 (.alt 8 (.take 9 (.take 10 (.take 11 (.take 12 (.take 13 .done))))) .stop))))))))) (by kernel_rfl) (fun wz => Kp (Fu w1 (fun _ => False) (fun k => k = p ∨ k = p')) w5 wz) (Nw.kp kd _) ?_
     simp -dsimp [go_sem,f13,hjq,p2,e0,e1,e2,e3,e4,e5,e6,e7,e8,e9]
     refine ⟨fun wz hz => by simp [hz.cell_some p2 hpp],fun wz hz => by simp [hz.cell_some e0 hAE,hz.cell_some e1 hAE,hz.cell_some e2 hAE,hz.cell_some e3 hAE,hz.cell_some e4 hAE,hz.cell_some e5 hAE,hz.cell_some e6 hAE,hz.cell_some e7 hAE,hz.cell_some e8 hAE,hz.cell_some e9 hAE],?_⟩
     refine call ((hT5.nw kd).do hTok.1 (hg5.nw kd).rc hgz.1 hux) ?_
     have hstep:=hAl.step hT5.fz X.1 (by omega) (by omega) (by omega)
     have hstep':=hAl'.step hT5.swap.fz X.1 (by omega) (by omega) (by omega)
     rw [hTT] at hstep'
     generalize doA S X.1 = R at *
     rintro v w6 ⟨rfl,hT6,k6⟩
     have k56:=(Nw.kp kd _).trans k6 fun _ _ h => h
     refine ⟨k56,?_⟩
     have p26':=k56.cell_some p2' hpp'
     have hp6:=hp.kp k56 hpp
     have hp6':=hp'.kp k56 hpp'
     have hg6:=hg.nw (k1.nw hT6.on)
     have n01:=k1.nw hT6.on
     have kd6:Nw w6 w6.drew:=(Kp.refl _ _).drew
     have p26':=hp6'.cell 2
     have d0:=k56.cell_some e0 hAE
     have d1:=k56.cell_some e1 hAE
     have d2:=k56.cell_some e2 hAE
     have d3:=k56.cell_some e3 hAE
     have d4:=k56.cell_some e4 hAE
     have d5:=k56.cell_some e5 hAE
     have d6:=k56.cell_some e6 hAE
     have d7:=k56.cell_some e7 hAE
     have d8:=k56.cell_some e8 hAE
     have d9:=k56.cell_some e9 hAE
     simp -dsimp [go_sem]
     refine draw (.take 0 (.take 1 (.take 2 (.take 3 (.take 4 (.take 5 (.take 6 (.take 7 (.alt 8 .done .stop))))))))) (by kernel_rfl) (fun wz => Kp (Fu w1 (fun _ => False) (fun k => k = p ∨ k = p')) w6 wz) (Nw.kp kd6 _) ?_
     simp -dsimp [go_sem,f13,hjq,p26',d0,d1,d2,d3,d4,d5,d6,d7,d8,d9]
     refine ⟨fun wz hz => by simp [hz.cell_some p26' hpp'],fun wz hz => by simp [hz.cell_some d0 hAE,hz.cell_some d1 hAE,hz.cell_some d2 hAE,hz.cell_some d3 hAE,hz.cell_some d4 hAE,hz.cell_some d5 hAE,hz.cell_some d6 hAE,hz.cell_some d7 hAE,hz.cell_some d8 hAE,hz.cell_some d9 hAE],?_⟩
     have hcd:=(hT6.nw kd6).swap.do hTok'.1 (hg6.nw kd6).rc hgz.1 hux
     generalize doA S' X.1 = R' at *
     refine call hcd ?_
     rintro v w7 ⟨rfl,hT7,k7⟩
     have k67:=(Nw.kp kd6 _).trans k7 fun _ _ h => h
     have hp7:=hp6.kp k67 hpp
     have hp7':=hp6'.kp k67 hpp'
     have hT7:=hT7.swap
     refine ⟨k67,?_⟩
     have p27:=hp7.cell 2
     have p27':=hp7'.cell 2
     rcases hstep with ⟨c1,rfl⟩ | ⟨c1,c2,rfl⟩ | ⟨c1,c2,S1,rfl,hT',hAl1,_⟩ | ⟨c1,c2,_,S1,rfl,hdd,hDd⟩
     ·rcases hstep' with ⟨_,rfl⟩ | ⟨d1,_⟩ | ⟨d1,_⟩ | ⟨d1,_⟩
      ·have hsm:=hT7.sm
       simp -dsimp [go_sem,p27]
       refine call hsm.dead ?_
       rintro v w8 ⟨rfl,rfl⟩
       rw [hTok.2]
       simp -dsimp [go_sem,f13,hj1,f11,f12]
       exact ⟨⟨j1,S,S',rfl,rfl,rfl,by omega,hTT,hAl.mono (by omega) (by omega) (by omega),hAl'.mono (by omega) (by omega) (by omega),hun,hT7,hp7,hp7'⟩,by simp [intOf]; omega⟩
      ·rw [c1] at d1; cases d1
      ·rw [c1] at d1; cases d1
      ·rw [c1] at d1; cases d1
     ·rcases hstep' with ⟨d1,_⟩ | ⟨_,_,rfl⟩ | ⟨_,d2,_⟩ | ⟨_,d2,_⟩
      ·rw [c1] at d1; cases d1
      ·have hsm:=hT7.sm
       generalize (plan S.T X.1).1 = e at *
       have hne':(e == 0) = false:=by simpa using c2
       simp -dsimp [go_sem,p27,hne']
       refine call hsm.dead ?_
       rintro v w8 ⟨rfl,rfl⟩
       rw [hTok.2]
       simp -dsimp [go_sem,f13,hj1,f11,f12]
       exact ⟨⟨j1,S,S',rfl,rfl,rfl,by omega,hTT,hAl.mono (by omega) (by omega) (by omega),hAl'.mono (by omega) (by omega) (by omega),hun,hT7,hp7,hp7'⟩,by simp [intOf]; omega⟩
      ·exact absurd d2 c2
      ·exact absurd d2 c2
     ·rcases hstep' with ⟨d1,_⟩ | ⟨_,d2,_⟩ | ⟨_,_,S1',rfl,hT1',hAl1',hun'⟩ | ⟨_,_,hl,_⟩
      ·rw [c1] at d1; cases d1
      ·exact absurd c2 d2
      ·have hsm:=hT7.sm
       have hok1:=hAl1.ok
       simp -dsimp [go_sem,p27]
       refine call (hsm.state hok1.1) ?_
       rintro v w8 ⟨rfl,k8⟩
       have hT8:=hT7.nw k8
       have hp8:=hp7.nw k8
       have p28:=hp8.cell 2
       simp -dsimp [go_sem,p28]
       refine call hT8.sm.dead ?_
       rintro v w9 ⟨rfl,rfl⟩
       rw [hok1.2]
       simp -dsimp [go_sem,f13,hj1,f11,f12]
       exact ⟨⟨j1,S1,S1',rfl,rfl,rfl,by omega,by rw [hT1',hT'],by rw [hj1']; exact hAl1.mono (by omega) (by omega) (by omega),by rw [hj1']; exact hAl1'.mono (by omega) (by omega) (by omega),hun' hun,hT8,hp8,hp7'.nw k8⟩,by simp [intOf]; omega⟩
      ·exact absurd hun hl
     ·rcases hstep' with ⟨d1,_⟩ | ⟨_,d2,_⟩ | ⟨_,_,S1',rfl,hT1',hAl1',hun'⟩ | ⟨_,_,hl,_⟩
      ·rw [c1] at d1; cases d1
      ·exact absurd c2 d2
      ·have hok1:=hAl1'.ok
       simp -dsimp [go_sem,p27]
       refine call hT7.sm.dead ?_
       rintro v w8 ⟨rfl,rfl⟩
       rw [hdd]
       simp -dsimp [go_sem,p27']
       refine call (hT7.swap.sm.state hok1.1) ?_
       rintro v w9 ⟨rfl,k9⟩
       simp -dsimp [go_sem,f11]
       exact ⟨⟨S1,S1',S.T,(plan S.T X.1).2.2,rfl,by rw [hT1'],hT7.nw k9,hDd.mono (by omega) (by omega) (by omega)⟩,hp7.nw k9⟩
      ·exact absurd hun hl
    ·obtain rfl:j = i:=by omega
     have haf:AfterL w1 w5 s g l t s' g' l' t' (fun k => k = p ∨ k = p') (f' 11) (f' 12):=⟨S,S',S.T,S.T,f11,f12,hT5,(hAl.dd (by omega) S.T).mono (by omega) (by omega) (by omega)⟩
     by_cases e:j < q.length
     ·have e60:¬ j < 60:=by omega
      have e60':¬ (j:Int) < 60:=by omega
      simp -dsimp [go_sem,f13,e,e60,e60']
      exact ⟨haf,hp⟩
     ·simp -dsimp [go_sem,f13,e]
      exact ⟨haf,hp⟩
   ·clear hp hp' hp3 hp4 hp4' hA4 hT3 hT4 p0
    rintro f' w5 ⟨⟨S,S',Ta,Tb,f11,f12,hT5,hDd⟩,hp⟩
    have p0:=hp.cell 0
    obtain ⟨F,G,FS,F',G',FS',V,a1,b1,c1,d1,e1,y1⟩:=id hT5
    simp -dsimp [go_sem,p0]
    refine call (dcrash_spec dr g S.D F w5 a1.ls.dk) ?_
    rintro v w6 ⟨rfl,hD6,k6⟩
    obtain ⟨D4,b4,d4,q4,T4,ho4,hz4,hg4,hT4,hb4⟩:=hDd dr hD6.ok
    have hp6:=hp.kp k6 fun e => (y1 p (.inl rfl)).1 (a1.fv p e)
    have p06:=hp6.cell 0
    simp -dsimp [go_sem,p06]
    refine call (sopen_gd g _ D4 b4 d4 q4 T4 F w6 hD6 ho4 hg4) ?_
    rintro v w7 ⟨s2,l3,t2,F3,G3,FS3,V3,rfl,hS2,gV3,k7⟩
    have n6:Nw w1 w6:=d1.at_ k6 fun k hk => c1 k (a1.fv k hk)
    have n7:Nw w1 w7:=n6.at_ k7 fun k hk => c1 k (a1.fv k hk)
    have hSm:Sm w1 w7 s2 g l3 t2 ⟨D4,⟨b4,d4,q4,false⟩,T4,false⟩ (fun _ => False) (fun _ => False):=⟨F3,G3,FS3,V3,hS2,fun k hk => (gV3 k hk).elim (fun e => c1 k (a1.fv k e)) fun e => Nat.le_trans n6.size e.1,n7,fun _ h => h.elim,fun _ h => h.elim⟩
    simp -dsimp [go_sem]
    refine call (hSm.state hg4.ok) ?_
    rintro v w8 ⟨rfl,k8⟩
    have n8:=k1.nw (n7.nw k8)
    have hself:∀ T:Stt,(stateT T == stateT T) = true:=fun T => by simp
    rcases hT4 with rfl | rfl
    ·have hs:=hself T4
     simp -dsimp [go_sem,f11,hs]
     refine call (stknown_spec w8) ?_
     rintro v w9 ⟨rfl,k9⟩
     simp -dsimp [go_sem]
     exact n8.nw k9
    ·have hs:=hself T4
     cases hq:(stateT T4 == stateT Ta) with
     | true =>
      simp -dsimp [go_sem,f11,hq]
      refine call (stknown_spec w8) ?_
      rintro v w9 ⟨rfl,k9⟩
      simp -dsimp [go_sem]
      exact n8.nw k9
     | false =>
      simp -dsimp [go_sem,f11,f12,hq,hs]
      refine call (stknown_spec w8) ?_
      rintro v w9 ⟨rfl,k9⟩
      simp -dsimp [go_sem]
      exact n8.nw k9
end Go.Proofs.YtellahclbhfdiaaGreatDoor
