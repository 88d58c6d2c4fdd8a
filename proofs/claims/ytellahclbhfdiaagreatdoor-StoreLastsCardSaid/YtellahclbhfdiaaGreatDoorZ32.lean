/-
  A store's Do walked. By the session itself. Plain facts on what changes come to: their errors; a state as a text. By the session itself. What disk's statements' own small functions come to; DiskKeeps walked. By the session itself. DiskNames walked: a file that gets another name has its bytes; what had that name is gone. By the session itself. The reference's disk: a row of files by rising names; where a name stands; what is read only, walked. By the session itself.
-/
import Derived.Test.YtellahclbhfdiaaGreatDoorZ30
import Derived.Test.YtellahclbhfdiaaGreatDoorZ31
import Derived.Test.YtellahclbhfdiaaGreatDoorZ04
import Derived.Test.YtellahclbhfdiaaGreatDoorZ05
import Derived.Test.YtellahclbhfdiaaGreatDoorZ27
import Derived.Test.YtellahclbhfdiaaGreatDoorZ16
import Derived.Test.YtellahclbhfdiaaGreatDoorZ18
namespace Go.Proofs.YtellahclbhfdiaaGreatDoor
set_option linter.unusedSimpArgs false
set_option linter.unusedVariables false
set_option maxRecDepth 100000
set_option maxHeartbeats 2000000
open Go.Vc Go.RowKit
theorem doW_wrD {S:Sto} (hd:S.dead = false) (n:Int):doW S n = doX S n (wrD S):=by
 unfold doW wrD
 split
 ·unfold doX
  simp only
  rw [if_neg (by simp)]
  obtain ⟨D,L,T,d⟩:=S
  simp only at hd
  rw [hd]
 ·rfl
theorem PlanR.nw {w w':World} {v:Value} {t:Nat} {P:Int × Int × Stt} {F V:Nat → Prop} (h:PlanR w v t P F V) (k:Nw w w'):PlanR w' v t P F V:=by
 rcases h with h | ⟨h1,f,h2,fid,caps,h3,h4,h5⟩
 ·exact .inl h
 ·exact .inr ⟨h1,f,h2,fid,caps,h3,h4,fun S V' w2 kS hS hG hV => h5 S V' w2 ((Nw.kp k S).trans kS fun _ _ h => h) hS (Gr.wide hG k.size (Nat.le_refl _)) hV⟩
theorem gs_rd {w:World} {e:TypeId} {v:Value} {n:Nat} {xs:List Value} {B:Nat} (h:Gs w e 1 v n xs B):∃ A c,v = .slice A n c ∧ Rd w A xs ∧ n ≤ c ∧ (∀ a,A = some a → B ≤ a.block) ∧ (∀ a,A = some a → a.block < w.heap.size):=by
 obtain ⟨A,c,rfl,ho,hA⟩:=h
 exact ⟨A,c,rfl,ho.rd,ho.2.1,hA,ho.lt⟩
theorem do_spec {s g l t:Nat} {S:Sto} {F G FS V:Nat → Prop} (v:Value) (c:Chg) (w:World) (h:StM w s g l t S F G FS V) (hT:S.T.Ok) (hc:RC w v c (fun _ => False)) (hs:CSz c) (hu:c.uids.length ≤ 1000000000) :
  Cal Tryz.prog 16 #[.pointer (some ⟨s,0,none⟩),v] w fun v' w' => v' = .tuple #[i64 (doA S c).2.1,i64 (doA S c).2.2] ∧ DoR w w' s g l t (doA S c).1 F G FS V:=by
 obtain ⟨A,ca,B,cb,rfl,hca,hcb,hrA,_,hrB,_⟩:=hc
 have s2:=h.c2
 refine enter Tryz.mixed Tryz.func16 rfl (by kernel_rfl) ?_
 simp -dsimp [go_sem]
 have k0:Nw w (w.alloc (.cells (chV c A ca B cb) 25)):=(Kp.refl _ _).alloc _
 have hy:=Blk.new w 25 (chV c A ca B cb)
 obtain ⟨y,hy'⟩:∃ y,y = w.heap.size:=⟨_,rfl⟩
 rw [← hy'] at hy ⊢
 generalize w.alloc (.cells (chV c A ca B cb) 25) = wa at *
 have ha:=h.nw k0
 have s2a:=ha.c2
 have e0:doA S c = if S.dead = true then (S,0,9) else if chgOk c = false then (S,0,1) else if (plan S.T c).1 ≠ 0 then (S,0,(plan S.T c).1) else doB S (plan S.T c).2.2 (plan S.T c).2.1 (lApp S.D mailN S.L (encC c)):=rfl
 cases hdead:S.dead with
 | true =>
  rw [hdead] at s2a
  rw [if_pos hdead] at e0
  rw [e0]
  simp -dsimp [go_sem,s2a]
  exact ⟨F,G,FS,V,ha,Cs.nw k0⟩
 | false =>
  rw [hdead] at s2a
  rw [if_neg (by rw [hdead]; simp)] at e0
  obtain ⟨ul,hul⟩:∃ ul,ul = c.uids.length:=⟨_,rfl⟩
  obtain ⟨bl,hbl⟩:∃ bl,bl = c.body.length:=⟨_,rfl⟩
  have y5:wa.cell? ⟨y,5,none⟩ = some (.slice A ul ca):=by rw [hul]; exact hy.cell 5
  have y9:wa.cell? ⟨y,9,none⟩ = some (.slice B bl cb):=by rw [hbl]; exact hy.cell 9
  have yf5:=hy.frozen 5
  have yf9:=hy.frozen 9
  simp -dsimp [go_sem,s2a]
  have hyl:=hy.lt
  refine drawD (.take 0 (.take 3 (.take 4 (.alt 1 (.alt 2 (.take 6 (.alt 5 (.alt 7 (.take 8 (.alt 9 .done .stop)) .stop) .stop)) .stop) .stop)))) 9 (by kernel_rfl) (fun wz => Kp (At y) wa wz ∧ wz.cell? ⟨y,9,none⟩ = some (.slice B bl cb)) ⟨(Kp.refl _ _).drew,by simpa using y9⟩ ?_
  simp -dsimp [go_sem,y5,y9]
  have kd:Nw wa wa.drew:=(Kp.refl _ _).drew
  refine ⟨fun wz hz hc => by simp [hc],(Kp.refl _ _).drew,?_⟩
  have hrA1:=(hrA.nw k0).nw kd
  rw [hul]
  refine call (iclone_spec A ca c.uids wa.drew hrA1 hu) ?_
  rintro v w1 ⟨hG1,k1⟩
  obtain ⟨A1,c1,rfl,hr1,hc1,hA1,hA1l⟩:=gs_rd hG1
  have n1:=kd.nw k1
  have y91:=n1.cell_some y9 fun h => h
  refine ⟨.inr ⟨Nw.kp n1 _,y91⟩,?_⟩
  simp -dsimp [go_sem]
  have hcl:Cal Tryz.prog 55 #[.slice B bl cb] w1 fun v w' => Bs w' v c.body w1.heap.size ∧ Nw w1 w':=by rw [hbl]; exact clone_spec B cb c.body w1 ((hrB.nw k0).nw n1) hs.body
  refine call hcl ?_
  rintro v w2 ⟨hB2,k2⟩
  obtain ⟨B2,c2,rfl,hr2,hc2,hB2',hB2l⟩:=gs_rd hB2
  have n2:=n1.nw k2
  have hy2:=hy.nw n2
  have y92:=n2.cell_some y9 fun h => h
  have y52:=n2.cell_some y5 fun h => h
  have yf52:=hy2.frozen 5
  have yf92:=hy2.frozen 9
  refine ⟨.inr ⟨Nw.kp n2 _,y92⟩,?_⟩
  have y20:=hy2.cell 0
  have y21:=hy2.cell 1
  have y22:=hy2.cell 2
  have y23:=hy2.cell 3
  have y24:=hy2.cell 4
  have y26:=hy2.cell 6
  have y27:=hy2.cell 7
  have y28:=hy2.cell 8
  simp -dsimp [go_sem,y52,y92,yf52,yf92,y20,y21,y22,y23,y24,y26,y27,y28]
  refine ⟨(Nw.kp n2 _).trans ((Kp.refl (At y) _).setCell_at _ _) fun _ _ h => h,?_⟩
  have hy3:Blk ((w2.setCell ⟨y,5,none⟩ (.slice A1 c.uids.length c1)).setCell ⟨y,9,none⟩ (.slice B2 c.body.length c2)) y 25 (chV c A1 c1 B2 c2):=by simpa using (hy2.set 5 (.slice A1 c.uids.length c1)).set 9 (.slice B2 c.body.length c2)
  have k23:Kp (At y) w2 ((w2.setCell ⟨y,5,none⟩ (.slice A1 c.uids.length c1)).setCell ⟨y,9,none⟩ (.slice B2 c.body.length c2)):=((Kp.refl _ _).setCell_at _ _).setCell_at _ _
  have n3:Nw w ((w2.setCell ⟨y,5,none⟩ (.slice A1 c.uids.length c1)).setCell ⟨y,9,none⟩ (.slice B2 c.body.length c2)):=(k0.nw n2).at_ k23 fun k (e:k = y) => by omega
  have hya:∀ a,A1 = some a → y < a.block:=fun a ha => by have:=hA1 a ha; simp at this; omega
  have hyb:∀ a,B2 = some a → y < a.block:=fun a ha => by have:=hB2' a ha; have:=n1.size; omega
  have hrA3:Rd ((w2.setCell ⟨y,5,none⟩ (.slice A1 c.uids.length c1)).setCell ⟨y,9,none⟩ (.slice B2 c.body.length c2)) A1 (c.uids.map i64):=(hr1.nw k2).kp k23 fun a ha _ (e:a.block = y) => by have:=hya a ha; omega
  have hrB3:Rd ((w2.setCell ⟨y,5,none⟩ (.slice A1 c.uids.length c1)).setCell ⟨y,9,none⟩ (.slice B2 c.body.length c2)) B2 (c.body.map u8):=hr2.kp k23 fun a ha _ (e:a.block = y) => by have:=hyb a ha; omega
  have h3:=h.nw n3
  generalize (w2.setCell ⟨y,5,none⟩ (.slice A1 c.uids.length c1)).setCell ⟨y,9,none⟩ (.slice B2 c.body.length c2) = w3 at *
  have hVl:=h.lt
  have hRC3:∀ V0:Nat → Prop,(∀ k,V0 k → k ≤ y) → RC w3 (.agg (chV c A1 c1 B2 c2)) c V0:=fun V0 hV0 => ⟨A1,c1,B2,c2,rfl,hc1,hc2,hrA3,fun a ha _ hv => by have:=hya a ha; have:=hV0 _ hv; omega,hrB3,fun a ha _ hv => by have:=hyb a ha; have:=hV0 _ hv; omega⟩
  refine call (sencode_spec _ c w3 (hRC3 _ fun _ h => h.elim) hs) ?_
  rintro v w4 ⟨hE,k4⟩
  have n4:=n3.nw k4
  have h4:=h.nw n4
  rcases hE with ⟨hok,pv,rfl,hB4⟩ | ⟨hno,rfl⟩
  ·rw [if_neg (by rw [hok]; simp)] at e0
   obtain ⟨X,x,rfl,hoX,hX⟩:=id hB4
   obtain ⟨eb,heb⟩:∃ eb,eb = encC c:=⟨_,rfl⟩
   rw [← heb] at e0 hoX ⊢
   have hebl:eb.length ≤ 2000:=by rw [heb]; exact encC_len (chgOk_ok hok)
   simp -dsimp [go_sem]
   have s14:=h4.c1
   have hy4:=hy3.nw k4
   have y40:=hy4.cell 0
   have y41:=hy4.cell 1
   have y42:=hy4.cell 2
   have y43:=hy4.cell 3
   have y44:=hy4.cell 4
   have y45:=hy4.cell 5
   have y46:=hy4.cell 6
   have y47:=hy4.cell 7
   have y48:=hy4.cell 8
   have y49:=hy4.cell 9
   have kd4:Nw w4 w4.drew:=(Kp.refl _ _).drew
   have hVy:∀ k,V k → k ≤ y:=fun k hk => by have:=hVl k hk; omega
   have hRC4:RC w4 (.agg (chV c A1 c1 B2 c2)) c V:=(hRC3 V hVy).nw k4
   have hV4:∀ k,V k → k < w4.heap.size:=h4.lt
   refine draw_cut (.take 0 (.take 1 (.take 2 (.take 3 (.take 4 (.alt 5 (.alt 6 (.alt 7 .done .stop) .stop) (.alt 6 (.alt 5 (.alt 7 .done .stop) .stop) .stop))))))) (fun st w' => st 0 = .pointer (some ⟨s,0,none⟩) ∧ st 6 = .slice X eb.length x ∧ ∃ (z:Nat) (pf:Value) (pn pe:Int),st 8 = .pointer (some ⟨z,0,none⟩) ∧ Blk w' z 100 #[pf,i64 pn,i64 pe] ∧ PlanR w' (.agg #[pf,i64 pn,i64 pe]) t (plan S.T c) FS V ∧ Nw w4 w' ∧ w4.heap.size ≤ z)
    (by kernel_rfl) (fun wz => Nw w4 wz) kd4 ?_ ?_
   ·simp -dsimp [go_sem,s14,y40,y41,y42,y43,y44,y45,y46,y47,y48,y49]
    refine ⟨fun wz hz => by simp [hz.cell_some s14 fun h => h],fun wz hz => by simp [hz.cell_some y40 fun h => h,hz.cell_some y41 fun h => h,hz.cell_some y42 fun h => h,hz.cell_some y43 fun h => h,hz.cell_some y44 fun h => h,hz.cell_some y45 fun h => h,hz.cell_some y46 fun h => h,hz.cell_some y47 fun h => h,hz.cell_some y48 fun h => h,hz.cell_some y49 fun h => h],?_,?_⟩
    ·refine call (plans_spec t S.T FS V c _ w4.drew (h4.st.nw kd4) hT (fun k hk => Nat.lt_of_lt_of_le (hV4 k hk) kd4.size) (hRC4.nw kd4) hok) ?_
     rintro v w5 ⟨hP,k5⟩
     have n5:=kd4.nw k5
     refine ⟨n5,?_⟩
     obtain ⟨pf,pn,pe,rfl,hpf⟩:=hP.three
     have kz:∀ cs,Nw w5 (w5.alloc (.cells cs 100)):=fun cs => (Kp.refl _ _).alloc _
     have kz2:∀ cs,Nw w5 (w5.alloc (.cells cs 100)).drew:=fun cs => ((Kp.refl _ _).alloc _).drew
     have hz:=fun cs => Blk.new w5 100 cs
     rcases hpf with rfl | ⟨fid,caps,rfl⟩
     ·simp -dsimp [go_sem]
      exact ⟨n5.nw (kz _),n5.nw (kz _),_,_,_,hz _,hP.nw (kz _),n5.nw (kz _),n5.size⟩
     ·simp -dsimp [go_sem]
      exact ⟨n5.nw (kz _),n5.nw (kz _),_,_,_,hz _,hP.nw (kz _),n5.nw (kz _),n5.size⟩
    ·have kz:Nw w4 (w4.alloc (.cells #[.nilFunc,i64 0,i64 0] 100)).drew:=((Kp.refl _ _).alloc _).drew
     have hz0:Blk (w4.alloc (.cells #[.nilFunc,i64 0,i64 0] 100)).drew w4.heap.size 100 #[.nilFunc,i64 0,i64 0]:=(Blk.new w4 _ _).nw ((Kp.refl (fun _ => False) _).drew)
     refine ⟨kz,?_⟩
     obtain ⟨z,hz⟩:∃ z,z = w4.heap.size:=⟨_,rfl⟩
     rw [← hz] at hz0 ⊢
     generalize (w4.alloc (.cells #[.nilFunc,i64 0,i64 0] 100)).drew = wz at *
     have hzl:=hz0.lt
     have hst:SttA wz t S.T FS (fun i => V i ∨ i = z):=h4.st.step kz (fun _ h => h.elim) (fun i hi => hi.imp id fun e => ⟨by omega,by omega⟩) fun i hi => .inl hi
     have hzV:¬ V z:=fun e => by have:=hV4 z e; omega
     have hzF:¬ FS z:=fun e => hzV (h4.fsv z e)
     refine call (plans_spec t S.T FS (fun i => V i ∨ i = z) c _ wz hst hT (fun k hk => hk.elim (fun e => Nat.lt_of_lt_of_le (hV4 k e) kz.size) fun e => by omega) (hRC4.wide kz (by omega)) hok) ?_
     rintro v w5 ⟨hP,k5⟩
     have n5:=kz.nw k5
     refine ⟨n5,?_⟩
     obtain ⟨pf,pn,pe,rfl,hpf⟩:=hP.three
     have hz5:=hz0.nw k5
     have z0c:=hz5.cell 0
     have z1c:=hz5.cell 1
     have z2c:=hz5.cell 2
     have z0f:=hz5.frozen 0
     have z1f:=hz5.frozen 1
     have z2f:=hz5.frozen 2
     have hbz:=fun a b d => (show Blk (((w5.setCell ⟨z,0,none⟩ a).setCell ⟨z,1,none⟩ b).setCell ⟨z,2,none⟩ d) z 100 #[a,b,d] by simpa using ((hz5.set 0 a).set 1 b).set 2 d)
     have nz:=fun a b d => n5.at_ (set3 w5 z a b d) fun k (e:k = z) => by omega
     rcases hpf with rfl | ⟨fid,caps,rfl⟩
     ·simp -dsimp [go_sem,z0c,z1c,z2c,z0f,z1f,z2f]
      exact ⟨nz _ _ _,_,_,_,hbz _ _ _,hP.put (set3 w5 z _ _ _) hzF hzV hz5.lt,nz _ _ _⟩
     ·simp -dsimp [go_sem,z0c,z1c,z2c,z0f,z1f,z2f]
      exact ⟨nz _ _ _,_,_,_,hbz _ _ _,hP.put (set3 w5 z _ _ _) hzF hzV hz5.lt,nz _ _ _⟩
   ·rintro s5 w5 ⟨f0,f6,z,pf,pn,pe,f8,hz,hP,n45,hzl⟩
    have hpo:=plan_ok hT hok
    obtain ⟨P,hPe⟩:∃ P,P = plan S.T c:=⟨_,rfl⟩
    rw [← hPe] at e0 hP hpo
    obtain ⟨Pe,Pn,PT⟩:=P
    simp only at e0 hpo
    clear y40 y41 y42 y43 y44 y45 y46 y47 y48 y49 y20 y21 y22 y23 y24 y26 y27 y28 y5 y9 yf5 yf9 y91 y92 y52 yf52 yf92
    have n5:=n4.nw n45
    have h5:=h.nw n5
    have z2c:=hz.cell 2
    rcases hP with ⟨hne,heq⟩ | ⟨he0,f,heq,hDo⟩
    ·injection heq with heq
     simp at heq
     obtain ⟨rfl,rfl,rfl⟩:=heq
     simp only at hne
     rw [if_pos hne] at e0
     have hne':(pe != 0) = true:=by simpa using hne
     simp -dsimp [go_sem,f8,z2c,hne']
     refine draw (.take 0 (.take 1 (.take 2 (.take 3 .done)))) (by kernel_rfl) (fun wz => Nw w5 wz) ((Kp.refl _ _).drew) ?_
     simp -dsimp [go_sem,f8,z2c]
     rw [e0]
     exact ⟨fun wz hk => by simp [hk.cell_some z2c fun h => h],⟨rfl,rfl⟩,F,G,FS,V,h5.nw ((Kp.refl _ _).drew),Cs.nw (n5.nw ((Kp.refl _ _).drew))⟩
    ·simp only at he0
     subst he0
     injection heq with heq
     simp at heq
     obtain ⟨rfl,rfl,rfl⟩:=heq
     rw [if_neg (by simp)] at e0
     have s05:=h5.c0
     simp -dsimp [go_sem,f0,f6,f8,z2c,s05]
     have hX5:Rd w5 X (eb.map u8):=hoX.rd.nw n45
     refine call (lapp_spec l g mailN S.D S.L F G V eb X x w5 h5.ls StM.mail h5.lok hX5 (fun a ha _ hv => by have:=hX a ha; have:=hVy _ hv; have:=hy3.lt; omega) hoX.2.1 (by omega)) ?_
     rintro v w6 ⟨rfl,c6⟩
     have hch:=c6
     obtain ⟨F6,G6,V6,hL6,ch⟩:=hch
     have hDR:=h5.led c6 (lApp_ok h5.lok S.D mailN eb)
     obtain ⟨R,hR⟩:∃ R,R = lApp S.D mailN S.L eb:=⟨_,rfl⟩
     rw [← hR] at e0 hDR ⊢
     obtain ⟨D1,L1,n1',e1⟩:=R
     simp only at e0 hDR ⊢
     have hsl:=h.sl
     have hzN:∀ k,(F k ∨ G k) → k ≠ z:=fun k hk e => by
      have:=hV4 k (hk.elim (h4.fv k) (h4.gv k)); omega
     have hz6:=hz.kp ch.kp fun e => hzN z e rfl
     rw [hdead] at hDR
     obtain ⟨F7,G7,FS7,V7,h7,cs7⟩:=id hDR
     have c07:=h7.c0
     by_cases h1:e1 = 0
     ·subst h1
      have eB:doB S PT pn (D1,L1,n1',0) = doW ⟨D1,L1,PT,false⟩ pn:=by unfold doB; rw [if_neg (fun h => h rfl)]
      rw [eB,doW_wrD rfl] at e0
      obtain ⟨fid,caps,rfl,hgo,hcal⟩:=hDo
      have z0c:=hz6.cell 0
      simp -dsimp [go_sem,f8,z0c,hgo]
      refine call (hcal (fun k => F k ∨ G k) V6 w6 ch.kp (fun i hi => ⟨hi.elim (h5.fv i) (h5.gv i),fun e => hi.elim (h5.apF i e).1 (h5.apF i e).2⟩) ch.gV ch.vv) ?_
      rintro v w8 ⟨rfl,hDone⟩
      have h6:StM w6 s g l t ⟨D1,L1,S.T,false⟩ F6 G6 FS V6:=by
       have hFl:∀ k,FS k → k < w5.heap.size:=fun k hk => h5.lt k (h5.fsv k hk)
       have hs5:=h5.sl
       have hb:=h5.blk.kp ch.kp fun e => e.elim h5.sap.1 h5.sap.2.1
       rw [hdead] at hb
       have hlo:=lApp_ok h5.lok S.D mailN eb
       rw [← hR] at hL6 hlo
       exact ⟨hb,hL6,hlo,h5.st.step ch.kp (fun i hi => ⟨hi.elim (h5.fv i) (h5.gv i),fun e => hi.elim (h5.apF i e).1 (h5.apF i e).2⟩) ch.gV ch.vv,fun i hi => ⟨fun e => (ch.gF i e).elim (h5.apF i hi).1 fun e => by have:=hFl i hi; omega,fun e => (ch.gG i e).elim (h5.apF i hi).2 fun e => by have:=hFl i hi; omega⟩,ch.vv _ h5.sv,fun e => (ch.gF s e).elim h5.sap.1 fun e => by omega,fun e => (ch.gG s e).elim h5.sap.2.1 fun e => by omega,h5.sap.2.2⟩
      have cs6:Cs w5 w6 s F F6 G G6 FS FS V V6:=⟨ch.gF,ch.gG,fun _ h => .inl h,ch.gV,ch.vv,ch.kp.mono fun k _ hk => hk.imp id .inl⟩
      have d8:=h6.done hDone
      obtain ⟨F8,G8,FS8,V8,h8,cs8⟩:=d8
      have cs58:=(Cs.nw (s:=s) (F:=F) (G:=G) (FS:=FS) (V:=V) n5).trans hsl (cs6.trans h5.sl cs8)
      simp -dsimp [go_sem,f0]
      refine call (writes_spec w8 h8 hpo) ?_
      rintro v w9 ⟨rfl,d9⟩
      obtain ⟨E,hE⟩:∃ E,E = wrD ⟨D1,L1,PT,false⟩:=⟨_,rfl⟩
      rw [← hE] at e0 d9 ⊢
      obtain ⟨D2,L2,e2⟩:=E
      simp only at e0 d9 ⊢
      obtain ⟨F9,G9,FS9,V9,h9,cs9⟩:=d9
      have cs59:=cs58.trans hsl cs9
      have z9:w9.cell? ⟨z,1,none⟩ = some (i64 pn):=by
       have k56:=cs6.kp
       have hzv:∀ k,V k → k ≠ z:=fun k hk e => by have:=hV4 k hk; omega
       have hz8:=hz6.kp cs8.kp fun e => by
        have hz6l:=hz6.lt
        rcases e with e | e | e | e
        ·exact (ch.gF z e).elim (fun e => hzv z (h5.fv z e) rfl) fun e => by have:=hz.lt; omega
        ·exact (ch.gG z e).elim (fun e => hzv z (h5.gv z e) rfl) fun e => by have:=hz.lt; omega
        ·exact hzv z (h5.fsv z e) rfl
        ·exact hzv s h5.sv e.symm
       have hz9:=hz8.kp cs9.kp fun e => by
        have hz6l:=hz6.lt
        rcases e with e | e | e | e
        ·exact (cs8.gF z e).elim (fun e => (ch.gF z e).elim (fun e => hzv z (h5.fv z e) rfl) fun e => by have:=hz.lt; omega) fun e => by omega
        ·exact (cs8.gG z e).elim (fun e => (ch.gG z e).elim (fun e => hzv z (h5.gv z e) rfl) fun e => by have:=hz.lt; omega) fun e => by omega
        ·exact (cs8.gS z e).elim (fun e => hzv z (h5.fsv z e) rfl) fun e => by omega
        ·exact hzv s h5.sv e.symm
       exact hz9.cell 1
      by_cases h2:e2 = 0
      ·subst h2
       have eX:doX ⟨D1,L1,PT,false⟩ pn (D2,L2,0) = (⟨D2,L2,PT,false⟩,pn,0):=by unfold doX; rw [if_neg (fun h => h rfl)]
       rw [eX] at e0
       rw [e0]
       simp -dsimp [go_sem,f8,z9]
       exact ⟨F9,G9,FS9,V9,h9,cs59⟩
      ·have h2':((e2:Int) != 0) = true:=by simp; omega
       have eX:doX ⟨D1,L1,PT,false⟩ pn (D2,L2,e2) = (⟨D2,L2,PT,true⟩,0,(e2:Int)):=by unfold doX; rw [if_pos h2]
       rw [eX] at e0
       rw [e0]
       have sf:=h9.blk.frozen 2
       have sc:=h9.c2
       simp -dsimp [go_sem,h2',h2,f0,sf,sc]
       exact DoR.trans hsl cs59 (h9.dies true)
     ·have h1':((e1:Int) != 0) = true:=by simp; omega
      have eB:doB S PT pn (D1,L1,n1',e1) = (⟨D1,L1,S.T,true⟩,0,(e1:Int)):=by unfold doB; rw [if_pos h1]
      rw [eB] at e0
      rw [e0]
      have sf:=h7.blk.frozen 2
      have sc:=h7.c2
      simp -dsimp [go_sem,h1',h1,f0,sf,sc]
      exact DoR.trans hsl (Cs.trans hsl (Cs.nw n5) cs7) (h7.dies true)
  ·rw [if_pos hno] at e0
   rw [e0]
   simp -dsimp [go_sem]
   exact ⟨F,G,FS,V,h4,Cs.nw n4⟩
set_option maxHeartbeats 1000000
/-- A state as a text. -/
def boxT (x:Nm × Bx):Nm:=[124] ++ encX x.2
def userT (x:Nm × Usr):Nm:=([47] ++ x.1) ++ x.2.bx.flatMap boxT
def stateT (T:Stt):Nm:=T.us.flatMap userT
theorem boxT_len {u:Usr} (h:u.Ok) {x:Nm × Bx} (hx:x ∈ u.bx):(boxT x).length ≤ 29801:=by
 have hb:=(h.bx x.1 x.2 ((tLook_mem h.srt).2 hx)).2
 have:=encX_len2 hb
 unfold boxT
 rw [List.length_append,List.length_singleton]
 omega
theorem boxesT_len {u:Usr} (h:u.Ok) (i:Nat):((u.bx.take i).flatMap boxT).length ≤ 119204:=by
 have h1:=flat_len boxT 29801 (u.bx.take i) fun x hx => boxT_len h (List.mem_of_mem_take hx)
 have h2:=h.len
 have h3:(u.bx.take i).length ≤ 4:=by rw [List.length_take]; omega
 have h4:=Nat.mul_le_mul_right 29801 h3
 omega
theorem userT_len {T:Stt} (h:T.Ok) {x:Nm × Usr} (hx:x ∈ T.us):(userT x).length ≤ 119217:=by
 have hu:=h.us x.1 x.2 ((tLook_mem h.srt).2 hx)
 have h1:=(nmOk_len hu.1).2
 have h2:=boxesT_len hu.2 x.2.bx.length
 rw [List.take_length] at h2
 unfold userT
 rw [List.length_append,List.length_append,List.length_singleton]
 omega
theorem stateT_len {T:Stt} (h:T.Ok) (i:Nat):((T.us.take i).flatMap userT).length ≤ 476868:=by
 have h1:=flat_len userT 119217 (T.us.take i) fun x hx => userT_len h (List.mem_of_mem_take hx)
 have h2:=h.len
 have h3:(T.us.take i).length ≤ 4:=by rw [List.length_take]; omega
 have h4:=Nat.mul_le_mul_right 119217 h3
 omega
/-! ### Where a name stands -/
section
variable {β:Type}
def spN:List (Nm × β) → Nm → Nat
 | [],_ => 0
 | p :: r,s => if p.1 < s then spN r s + 1 else 0
theorem sp_at {l:List (Nm × β)} (hl:Srt l) {s:Nm} {f:β} (h:tLook l s = some f):l[spN l s]? = some (s,f):=by
 induction l with
 | nil => cases h
 | cons p r ih =>
  obtain ⟨k,g⟩:=p
  simp only [tLook] at h
  by_cases hk:k = s
  ·subst hk
   rw [if_pos rfl] at h
   injection h with h
   simp [spN,nm_lt_irrefl,h]
  ·rw [if_neg hk] at h
   have hlt:k < s:=hl.head _ (tLook_some h)
   simp [spN,hlt,ih hl.tail h]
theorem sp_not {l:List (Nm × β)} (hl:Srt l) {s:Nm} (h:tLook l s = none):∀ q,l[spN l s]? = some q → q.1 ≠ s:=by
 intro q hq e
 have hm:(s,q.2) ∈ l:=by rw [← e]; exact List.mem_of_getElem? hq
 rw [(tLook_mem hl).2 hm] at h
 cases h
theorem sp_old {l:List (Nm × β)} (hl:Srt l) {s:Nm} {g:β} (h:tLook l s = some g) (f:β):tLay l s f = l.set (spN l s) (s,f):=by
 induction l with
 | nil => cases h
 | cons p r ih =>
  obtain ⟨k,g'⟩:=p
  simp only [tLook] at h
  by_cases hk:k = s
  ·subst hk
   simp [tLay,spN,nm_lt_irrefl]
  ·rw [if_neg hk] at h
   have hlt:k < s:=hl.head _ (tLook_some h)
   simp [tLay,spN,hlt,ih hl.tail h]
theorem sp_gone {l:List (Nm × β)} (hl:Srt l) {s:Nm} {g:β} (h:tLook l s = some g):tGone l s = l.take (spN l s) ++ l.drop (spN l s + 1):=by
 induction l with
 | nil => cases h
 | cons p r ih =>
  obtain ⟨k,g'⟩:=p
  simp only [tLook] at h
  by_cases hk:k = s
  ·subst hk
   simp [tGone,spN,nm_lt_irrefl]
  ·rw [if_neg hk] at h
   have hlt:k < s:=hl.head _ (tLook_some h)
   simp [tGone,spN,hlt,hk,ih hl.tail h]
theorem mapv_lay {γ:Type} (c:β → γ) (l:List (Nm × β)) (s:Nm) (f:β):mapv c (tLay l s f) = tLay (mapv c l) s (c f):=by
 induction l with
 | nil => rfl
 | cons p r ih =>
  obtain ⟨k,g⟩:=p
  simp only [mapv,List.map_cons,tLay] at ih ⊢
  split
  ·simp [ih]
  ·split <;> simp
theorem mapv_gone {γ:Type} (c:β → γ) (l:List (Nm × β)) (s:Nm):mapv c (tGone l s) = tGone (mapv c l) s:=by
 induction l with
 | nil => rfl
 | cons p r ih =>
  obtain ⟨k,g⟩:=p
  simp only [mapv,List.map_cons,tGone] at ih ⊢
  split
  ·rfl
  ·simp [ih]
theorem srt_mapv {γ:Type} {c:β → γ} {l:List (Nm × β)} (h:Srt (mapv c l)):Srt l:=by
 unfold Srt mapv at h
 rw [List.pairwise_map] at h
 exact h
end
/-! ### Files as cells -/
abbrev RL:=List (Nm × (Fil × Value))
def fc (L:RL):List Value:=L.flatMap fun q => [str q.1,q.2.2,i64 q.2.1.l]
theorem fc_len (L:RL):(fc L).length = L.length * 3:=by
 induction L with
 | nil => rfl
 | cons p r ih => simp only [fc,List.flatMap_cons,List.length_append,List.length_cons,List.length_nil] at ih ⊢; omega
theorem fc_app (L M:RL):fc (L ++ M) = fc L ++ fc M:=by simp [fc]
theorem fc_at:∀ (L:RL) (i:Nat) (h:i < L.length),(fc L)[i * 3]? = some (str L[i].1) ∧ (fc L)[i * 3 + 1]? = some L[i].2.2 ∧ (fc L)[i * 3 + 2]? = some (i64 L[i].2.1.l)
 | p :: r,0,_ => ⟨rfl,rfl,rfl⟩
 | p :: r,i + 1,h => by
  have:=fc_at r i (by simpa using h)
  rw [show (i + 1) * 3 = i * 3 + 1 + 1 + 1 by omega]
  exact this
theorem fc_take (L:RL) (i:Nat) (h:i ≤ L.length):(fc L).take (i * 3) = fc (L.take i):=by
 have e:fc L = fc (L.take i) ++ fc (L.drop i):=by rw [← fc_app,List.take_append_drop]
 rw [e,List.take_left' (by rw [fc_len,List.length_take,Nat.min_eq_left h])]
theorem fc_drop (L:RL) (i:Nat) (h:i ≤ L.length):(fc L).drop (i * 3) = fc (L.drop i):=by
 have e:fc L = fc (L.take i) ++ fc (L.drop i):=by rw [← fc_app,List.take_append_drop]
 rw [e,List.drop_left' (by rw [fc_len,List.length_take,Nat.min_eq_left h])]
theorem fc_set1:∀ (L:RL) (i:Nat) (h:i < L.length) (u:Value),(fc L).set (i * 3 + 1) u = fc (L.set i (L[i].1,(L[i].2.1,u)))
 | p :: r,0,_,u => rfl
 | p :: r,i + 1,h,u => by
  have:=fc_set1 r i (by simpa using h) u
  rw [show (i + 1) * 3 + 1 = i * 3 + 1 + 1 + 1 + 1 by omega]
  exact congrArg (fun t => str p.1 :: p.2.2 :: i64 p.2.1.l :: t) this
theorem fc_set2:∀ (L:RL) (i:Nat) (h:i < L.length) (n:Nat),(fc L).set (i * 3 + 2) (i64 n) = fc (L.set i (L[i].1,(⟨L[i].2.1.b,n⟩,L[i].2.2)))
 | p :: r,0,_,u => rfl
 | p :: r,i + 1,h,u => by
  have:=fc_set2 r i (by simpa using h) u
  rw [show (i + 1) * 3 + 2 = i * 3 + 2 + 1 + 1 + 1 by omega]
  exact congrArg (fun t => str p.1 :: p.2.2 :: i64 p.2.1.l :: t) this
theorem ow_setN {w:World} {e:TypeId} {g n c sz:Nat} {xs:List Value} (h:Ow w e sz (some ⟨g,0,none⟩) n c xs) (i:Nat) (u:Value):Ow (w.setCell ⟨g,i,none⟩ u) e sz (some ⟨g,0,none⟩) n c (xs.set i u):=by
 obtain ⟨h1,h2,h3,h4⟩:=h
 refine ⟨by simpa using h1,h2,h3,?_⟩
 rcases h4 with ⟨h4,_⟩ | ⟨g',cur,e,hg,h5,h6⟩
 ·cases h4
 ·cases e
  refine .inr ⟨_,_,rfl,hg.set i u,by simpa using h5,?_⟩
  rw [← h6]
  simp [List.take_set]
theorem SFile:SlT Tryz.prog 132 140 3 48 (.agg #[.string ⟨#[]⟩,.slice none 0 0,.int .i64 0]):=⟨by kernel_rfl,by kernel_rfl,by rfl,by decide⟩
theorem run_bsA3 {P:Program} {w:World} (t:TypeId) (a b c:Value) (h:P.underlying t = some (.slice (P.elem t))) (hs:(sizeOf (P.elem t)).run P w = .ok 3 w) (hz:∃ x y z,(zeroValue (P.elem t)).run P w = .ok (.agg #[x,y,z]) w) :
  bsR P t 1 #[(0,.agg #[a,b,c])] w = .ok (.slice (some ⟨w.heap.size,0,none⟩) 1 1) (w.alloc (.cells #[a,b,c] (P.elem t))):=by
 obtain ⟨x,y,z,hz⟩:=hz
 simp [bsR,Instr.buildSlice,run_underlying h,hs,hz,Instr.fill,Value.cells,newRow,show Array.range 1 = #[0] from rfl,show Array.range 3 = #[0,1,2] from rfl]
@[go_sem 20000] theorem bs_file (a b c:Value) (w:World):bsR Tryz.prog 132 1 #[(0,.agg #[a,b,c])] w = .ok (.slice (some ⟨w.heap.size,0,none⟩) 1 1) (w.alloc (.cells #[a,b,c] 140)) :=
 run_bsA3 _ a b c (by kernel_rfl) (by rfl) ⟨_,_,_,rfl⟩
/-- Bytes that are read only, within Q. -/
def Bv (w:World) (v:Value) (b:List UInt8) (Q:Nat → Prop):Prop:=∃ B d,v = .slice B b.length d ∧ Rd w B (b.map u8) ∧ b.length ≤ d ∧ ∀ k,blk B k → Q k
theorem Bv.kp {S:Nat → Prop} {w w':World} {v:Value} {b:List UInt8} {Q:Nat → Prop} (h:Bv w v b Q) (k:Kp S w w') (hd:∀ i,Q i → ¬ S i):Bv w' v b Q:=by
 obtain ⟨B,d,h1,h2,h3,h4⟩:=h
 exact ⟨B,d,h1,h2.kp k ((Off.of_blk fun i hi => hd _ (h4 _ hi)).l _),h3,h4⟩
theorem Bv.mono {w:World} {v:Value} {b:List UInt8} {Q Q':Nat → Prop} (h:Bv w v b Q) (hq:∀ k,Q k → Q' k):Bv w v b Q':=by
 obtain ⟨B,d,h1,h2,h3,h4⟩:=h
 exact ⟨B,d,h1,h2,h3,fun k hk => hq k (h4 k hk)⟩
def leftI:Option Nat → Int
 | none => -1
 | some n => n
/-- The reference's Disk at block x: the row L in A, its bytes in Q. -/
structure RefM (w:World) (x:Nat) (room:Nat) (left:Option Nat) (L:RL) (A:Option Addr) (c:Nat) (Q F:Nat → Prop):Prop where
 blk:Blk w x 134 #[i64 room,.slice A L.length c,i64 (leftI left)]
 own:Ow w 140 3 A L.length c (fc L)
 bytes:∀ q ∈ L,Bv w q.2.2 q.2.1.b Q
 inn:∀ k,k = x ∨ Vc.blk A k ∨ Q k → F k
 offx:Off A (At x)
 offq:∀ k,Q k → k ≠ x ∧ ¬ Vc.blk A k
 lt:∀ k,F k → k < w.heap.size
def RefD (w:World) (x:Nat) (D:Dsk) (F:Nat → Prop):Prop:=∃ L A c Q,mapv Prod.fst L = D.fs ∧ RefM w x D.room D.left L A c Q F
theorem RefM.kp {S:Nat → Prop} {w w':World} {x room c:Nat} {left:Option Nat} {L:RL} {A:Option Addr} {Q F:Nat → Prop} (h:RefM w x room left L A c Q F) (k:Kp S w w') (hd:∀ i,F i → ¬ S i):RefM w' x room left L A c Q F :=
 ⟨h.blk.kp k (hd _ (h.inn _ (.inl rfl))),h.own.kp k (Off.of_blk fun i hi => hd _ (h.inn _ (.inr (.inl hi)))),fun q hq => (h.bytes q hq).kp k fun i hi => hd _ (h.inn _ (.inr (.inr hi))),h.inn,h.offx,h.offq,fun i hi => Nat.lt_of_lt_of_le (h.lt i hi) k.size⟩
theorem RefM.nw {w w':World} {x room c:Nat} {left:Option Nat} {L:RL} {A:Option Addr} {Q F:Nat → Prop} (h:RefM w x room left L A c Q F) (k:Nw w w'):RefM w' x room left L A c Q F:=h.kp k fun _ _ h => h
theorem RefD.kp {S:Nat → Prop} {w w':World} {x:Nat} {D:Dsk} {F:Nat → Prop} (h:RefD w x D F) (k:Kp S w w') (hd:∀ i,F i → ¬ S i):RefD w' x D F:=by
 obtain ⟨L,A,c,Q,h1,h2⟩:=h
 exact ⟨L,A,c,Q,h1,h2.kp k hd⟩
theorem RefD.nw {w w':World} {x:Nat} {D:Dsk} {F:Nat → Prop} (h:RefD w x D F) (k:Nw w w'):RefD w' x D F:=h.kp k fun _ _ h => h
theorem RefD.lt {w:World} {x:Nat} {D:Dsk} {F:Nat → Prop} (h:RefD w x D F):∀ k,F k → k < w.heap.size:=by
 obtain ⟨L,A,c,Q,h1,h2⟩:=h
 exact h2.lt
theorem RefM.lenL {w:World} {x room c:Nat} {left:Option Nat} {L:RL} {A:Option Addr} {Q F:Nat → Prop} (h:RefM w x room left L A c Q F) {D:Dsk} (e:mapv Prod.fst L = D.fs) (ok:D.Ok):L.length ≤ 4096:=by
 have:=ok.many
 rw [← e] at this
 simpa [mapv] using this
theorem rnew_spec (n:Int) (w:World):Cal Tryz.prog 53 #[i64 n] w fun v w' =>
  ((n < 0 ∨ 1073741824 < n) ∧ v = .tuple #[.pointer none,i64 1] ∧ w' = w) ∨ (0 ≤ n ∧ n ≤ 1073741824 ∧ ∃ x F,v = .tuple #[.pointer (some ⟨x,0,none⟩),i64 0] ∧ RefD w' x ⟨n.toNat,[],none⟩ F ∧ Nf w F ∧ Nw w w'):=by
 refine enter Tryz.mixed Tryz.func53 rfl (by kernel_rfl) ?_
 by_cases h0:n < 0
 ·simp -dsimp [go_sem,h0]
 ·by_cases h1:1073741824 < n
  ·simp -dsimp [go_sem,h0,h1]
  ·obtain ⟨m,rfl⟩:∃ m:Nat,n = m:=⟨n.toNat,by omega⟩
   simp -dsimp [go_sem,h0,h1]
   simp [go_sem]
   refine ⟨by omega,At w.heap.size,⟨[],none,0,fun _ => False,rfl,Blk.new _ _ _,Ow.nil _ _ _,by simp,fun k hk => ?_,by simp [Off],fun k h => h.elim,fun k (e:k = _) => by simp [e]⟩,Nf.at_ (Nat.le_refl _),(Kp.refl _ _).alloc _⟩
   rcases hk with e | e | e
   ·exact e
   ·exact e.elim
   ·exact e.elim
theorem rmay_spec (ns:List Nm) (A:Option Addr) (c x:Nat) (D:Dsk) (F:Nat → Prop) (w:World) (h:RefD w x D F) (hr:Rd w A (ns.map fun s => str s)) (hl:ns.length ≤ 140737488355328) (hs:∀ s ∈ ns,s.length ≤ 9223372036854775807) :
  Cal Tryz.prog 182 #[.pointer (some ⟨x,0,none⟩),.slice A ns.length c] w fun v w' => v = i64 (mayL D ns) ∧ w' = w:=by
 obtain ⟨L,A0,c0,Q,he,h⟩:=h
 have b2:=h.blk.cell 2
 refine enter Tryz.mixed Tryz.func182 rfl (by kernel_rfl) ?_
 by_cases hz0:D.left = some 0
 ·rw [hz0] at b2
  have e:mayL D ns = 9:=by unfold mayL; rw [if_pos hz0]
  rw [e]
  have b2:w.cell? ⟨x,2,none⟩ = some (i64 0):=b2
  simp -dsimp [go_sem,b2]
 ·have hne:(leftI D.left == 0) = false:=by
   cases hd:D.left with
   | none => rfl
   | some n =>
    rw [hd] at hz0
    simp only [leftI,beq_eq_false_iff_ne]
    intro e
    exact hz0 (by congr 1; omega)
  have fin:mayL D ns = if ns.any badN then 1 else 0:=by unfold mayL; rw [if_neg hz0]
  simp -dsimp [go_sem,b2,hne]
  refine loop [4,5,11,12,13,14,15,16,17,18,19,20,21,22,23,24,25,26,27,28,29,30] (by kernel_rfl) (fun f w' => Box1 (fun a w' => ∃ i:Nat,i ≤ ns.length ∧ a = i64 i ∧ (ns.take i).any badN = false ∧ w' = w) (f 5) w') (fun f _ => ns.length - (intOf (f 5)).toNat) ⟨0,Nat.zero_le _,rfl,rfl,rfl⟩ ?_
  rintro f w' ⟨i,hi,f5,hb,rfl⟩
  by_cases hlt:i < ns.length
  ·obtain ⟨b,o,rfl,hc⟩:=hr i (str ns[i]) (by simp [hlt])
   have htk:(ns.take (i + 1)).any badN = badN ns[i]:=by
    rw [List.take_succ_eq_append_getElem hlt,List.any_append,hb]
    simp
   have hmem:=List.getElem_mem hlt
   have hsl:=hs ns[i] hmem
   obtain ⟨s,hs'⟩:∃ s,s = ns[i]:=⟨_,rfl⟩
   rw [← hs'] at hc htk hmem hsl
   have bad:badN s = true → mayL D ns = 1:=fun hbs => by
    rw [fin,if_pos]
    exact List.any_eq_true.2 ⟨s,hmem,hbs⟩
   by_cases h1:s.length < 1
   ·have h1':(s.length:Int) < 1:=by omega
    simp -dsimp [go_sem,f5,hlt,hc,h1,h1']
    rw [bad (by simp [badN,h1])]
    rfl
   ·have h1':¬ (s.length:Int) < 1:=by omega
    by_cases h64:64 < s.length
    ·have h64':(64:Int) < (s.length:Int):=by omega
     simp -dsimp [go_sem,f5,hlt,hc,h1,h1',h64,h64']
     rw [bad (by simp [badN,h64])]
     rfl
    ·have h64':¬ (64:Int) < (s.length:Int):=by omega
     have hk1:IntKind.i64.wrap ((i:Int) + 1) = ((i + 1:Nat):Int):=w64 (by omega) (by omega)
     obtain ⟨k1,hk1'⟩:∃ k1,k1 = i + 1:=⟨_,rfl⟩
     rw [← hk1'] at hk1 htk
     simp -dsimp [go_sem,f5,hlt,hc,h1,h1',h64,h64',hk1]
     refine ⟨⟨k1,by omega,rfl,?_,rfl⟩,by simp [intOf]; omega⟩
     rw [htk]
     simp [badN,h1,h64]
  ·obtain rfl:i = ns.length:=by omega
   rw [List.take_length] at hb
   simp -dsimp [go_sem,f5]
   rw [fin,hb]
   rfl
theorem rdid_spec (x:Nat) (D:Dsk) (F:Nat → Prop) (w:World) (h:RefD w x D F) (hleft:∀ n,D.left = some n → n ≤ 9223372036854775807) :
  Cal Tryz.prog 185 #[.pointer (some ⟨x,0,none⟩)] w fun v w' => v = i64 0 ∧ RefD w' x D.done F ∧ Kp (At x) w w':=by
 obtain ⟨L,A,c,Q,he,h⟩:=h
 have b2:=h.blk.cell 2
 have b2f:=h.blk.frozen 2
 refine enter Tryz.mixed Tryz.func185 rfl (by kernel_rfl) ?_
 cases hd:D.left with
 | none =>
  rw [hd] at b2
  have b2:w.cell? ⟨x,2,none⟩ = some (i64 (-1)):=b2
  have e:D.done = D:=by simp [Dsk.done,hd]; cases D; simp_all
  rw [e]
  simp -dsimp [go_sem,b2]
  exact ⟨⟨L,A,c,Q,he,h⟩,Kp.refl _ _⟩
 | some n =>
  rw [hd] at b2
  have b2:w.cell? ⟨x,2,none⟩ = some (i64 n):=b2
  by_cases h0:n = 0
  ·subst h0
   have e:D.done = D:=by simp [Dsk.done,hd]; cases D; simp_all
   rw [e]
   simp -dsimp [go_sem,b2]
   exact ⟨⟨L,A,c,Q,he,h⟩,Kp.refl _ _⟩
  ·have hpos:0 < n:=by omega
   have hn:=hleft n hd
   have hw:IntKind.i64.wrap ((n:Int) - 1) = ((n - 1:Nat):Int):=by rw [w64 (by omega) (by omega)]; omega
   simp -dsimp [go_sem,b2,b2f,hpos,hw]
   have hs:Kp (At x) w (w.setCell ⟨x,2,none⟩ (i64 (n - 1:Nat))):=(Kp.refl _ _).setCell_at _ _
   have e:D.done = ⟨D.room,D.fs,some (n - 1)⟩:=by simp [Dsk.done,hd]
   rw [e]
   refine ⟨⟨L,A,c,Q,he,?_,h.own.kp hs h.offx,fun q hq => (h.bytes q hq).kp hs fun i hi e => (h.offq i hi).1 e,h.inn,h.offx,h.offq,fun i hi => Nat.lt_of_lt_of_le (h.lt i hi) hs.size⟩,hs⟩
   simpa [leftI] using h.blk.set 2 _
theorem bytesLess_eq:∀ a b:Nm,Op.bytesLess a b = decide (a < b)
 | [],[] => by simp [Op.bytesLess]
 | [],_ :: _ => by simp [Op.bytesLess]
 | _ :: _,[] => by simp [Op.bytesLess]
 | x :: a,y :: b => by
  have ih:=bytesLess_eq a b
  simp only [Op.bytesLess,ih,List.cons_lt_cons_iff]
  by_cases h1:x < y
  ·simp [h1]
  ·by_cases h2:x = y
   ·subst h2; simp [h1]
   ·have:¬ x = y:=h2
    simp [h1,h2]
theorem rspot_spec (s:Nm) (x room c:Nat) (left:Option Nat) (L:RL) (A:Option Addr) (Q F:Nat → Prop) (w:World) (h:RefM w x room left L A c Q F) (hll:L.length ≤ 4096) (hs:Srt L) :
  Cal Tryz.prog 183 #[.pointer (some ⟨x,0,none⟩),str s] w fun v w' => v = .tuple #[i64 (spN L s),.bool (tLook L s).isSome] ∧ Nw w w':=by
 have b1:=h.blk.cell 1
 refine enter Tryz.mixed Tryz.func183 rfl (by kernel_rfl) ?_
 simp -dsimp [go_sem]
 refine loop [6,7,8,9,10,11,12,13,14,15,16,17,18,19,20,21,22,23,24,25,26,27] (by kernel_rfl) (fun f w' => Box1 (fun a w' => ∃ i:Nat,i ≤ L.length ∧ a = i64 i ∧ spN L s = i + spN (L.drop i) s ∧ w' = w) (f 6) w') (fun f _ => L.length - (intOf (f 6)).toNat) ⟨0,Nat.zero_le _,rfl,by simp,rfl⟩ ?_
 rintro f w' ⟨i,hi,f6,hsp,rfl⟩
 have kd:Nw w' w'.drew:=(Kp.refl _ _).drew
 have b1d:=(h.nw kd).blk.cell 1
 have b1s:w'.cell? ⟨x,1,none⟩ = some (.slice A L.length c):=b1
 by_cases hlt:i < L.length
 ·obtain ⟨c0,c1,c2⟩:=fc_at L i hlt
  obtain ⟨b,o,rfl,hc0⟩:=h.own.rd _ _ c0
  rw [List.drop_eq_getElem_cons hlt] at hsp
  simp only [spN] at hsp
  by_cases hls:L[i].1 < s
  ·rw [if_pos hls] at hsp
   have hki:IntKind.i64.wrap ((i:Int) + 1) = ((i + 1:Nat):Int):=w64 (by omega) (by omega)
   obtain ⟨i1,hi1⟩:∃ i1,i1 = i + 1:=⟨_,rfl⟩
   rw [← hi1] at hki hsp
   simp -dsimp [go_sem,f6,b1,hlt,hc0,bytesLess_eq,hls,hki]
   exact ⟨⟨i1,by omega,rfl,by omega,rfl⟩,by simp [intOf]; omega⟩
  ·rw [if_neg hls] at hsp
   have hin:(tLook L s).isSome = decide (L[i].1 = s):=by
    have hsp:spN L s = i:=by omega
    cases ht:tLook L s with
    | none =>
     have:=sp_not hs ht L[i] (by rw [hsp]; simp [hlt])
     simp [this]
    | some f =>
     have:=sp_at hs ht
     rw [hsp,List.getElem?_eq_getElem hlt] at this
     injection this with this
     simp [this]
   have hsi:spN L s = i:=by omega
   rw [hin,hsi]
   have hc0d:=kd.cell_some hc0 fun h => h
   simp -dsimp [go_sem,f6,b1,hlt,hc0,bytesLess_eq,hls]
   refine draw (.take 0 (.take 1 (.take 2 (.take 3 (.take 4 (.take 5 (.take 6 (.take 7 (.take 8 (.take 9 (.take 10 (.take 11 (.take 12 (.take 13 (.take 14 (.take 15 (.take 16 (.take 17 (.take 18 (.take 19 (.take 20 (.take 21 .done)))))))))))))))))))))) (by kernel_rfl) (fun w1 => Nw w' w1) kd ?_
   simp -dsimp [go_sem,f6,b1d,hlt,hc0d]
   refine ⟨fun wz hz => by simp [hz.cell_some b1s fun h => h],fun wz hz => by simp [hz.cell_some hc0 fun h => h],?_,kd⟩
   by_cases h:L[i].1 = s <;> simp [h]
 ·obtain rfl:i = L.length:=by omega
  rw [List.drop_length] at hsp
  have hsi:spN L s = L.length:=by simpa [spN] using hsp
  have hin:tLook L s = none:=by
   cases ht:tLook L s with
   | none => rfl
   | some f =>
    have:=sp_at hs ht
    rw [hsi] at this
    simp at this
  rw [hin,hsi]
  simp -dsimp [go_sem,f6,b1]
  refine draw (.take 0 (.take 1 (.take 2 (.take 3 (.take 4 (.take 5 (.take 6 (.take 7 (.take 8 (.take 9 (.take 10 (.take 11 (.take 12 (.take 13 (.take 14 (.take 15 (.take 16 (.take 17 (.take 18 (.take 19 (.take 20 (.take 21 .done)))))))))))))))))))))) (by kernel_rfl) (fun w1 => Nw w' w1) kd ?_
  simp -dsimp [go_sem,f6,b1d,b1d]
  exact ⟨fun wz hz => by simp [hz.cell_some b1s fun h => h],kd⟩
end Go.Proofs.YtellahclbhfdiaaGreatDoor
