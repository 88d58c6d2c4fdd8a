/-
  A state loaded out of a ledger: loaded walked. By the session itself. Changes handed in, weighed; StoreErrs walked. By the session itself. Rows of texts compared; a store opened beside another one on one disk. By the session itself.
-/
import Derived.Test.YtellahclbhfdiaaGreatDoorZ41
import Derived.Test.YtellahclbhfdiaaGreatDoorZ43
import Derived.Test.YtellahclbhfdiaaGreatDoorZ32
import Derived.Test.YtellahclbhfdiaaGreatDoorZ38
namespace Go.Proofs.YtellahclbhfdiaaGreatDoor
set_option linter.unusedSimpArgs false
set_option linter.unusedVariables false
set_option maxRecDepth 100000
set_option maxHeartbeats 2000000
open Go.Vc Go.RowKit
theorem imgS_ne (T:Stt):0 < (imgS T).length:=by
 rw [imgS_eq,List.length_append]
 have:=numB_pos (clampN T.next)
 omega
theorem loaded_spec (l g:Nat) (base:Nat) (data:List UInt8) (qs:List (List UInt8)) (T:Stt) (G V:Nat → Prop) (w:World) (h:Lg w l g mailN ⟨base,data,qs,false⟩ G V) (lok:Led.Ok ⟨base,data,qs,false⟩) (gd:Gd base data qs T) :
  Cal Tryz.prog 60 #[.pointer (some ⟨l,0,none⟩)] w fun v w' => LoadR w w' v T V:=by
 obtain ⟨T0,hIm,hRp⟩:=gd
 have hlk:=lok.last
 simp only at hlk
 have hlast:Led.last ⟨base,data,qs,false⟩ = base + qs.length:=rfl
 obtain ⟨b1,hb1⟩:∃ b1,b1 = base + 1:=⟨_,rfl⟩
 have hbw:IntKind.i64.wrap ((base:Int) + 1) = (b1:Int):=by rw [w64 (by omega) (by omega)]; omega
 have hVl:=h.lt
 refine enter Tryz.mixed Tryz.func60 rfl (by kernel_rfl) ?_
 simp -dsimp [go_sem]
 refine call (empty_specV V w h.lt) ?_
 rintro v w1 ⟨t,FS,rfl,k1,hFS,hT⟩
 have h1:=h.nw k1
 simp -dsimp [go_sem]
 refine call (base_spec l g mailN _ G V w1 h1 lok) ?_
 rintro v w2 ⟨k2,u,rfl,hB⟩
 have n2:=k1.nw k2
 obtain ⟨X,x,rfl,hoX,hX⟩:=hB
 obtain ⟨dl,hdl⟩:∃ dl,dl = data.length:=⟨_,rfl⟩
 have hel:(⟨base,data,qs,false⟩:Led).data.length = dl:=hdl.symm
 have heb:(⟨base,data,qs,false⟩:Led).base = base:=rfl
 rw [hel,heb]
 by_cases hz:base = 0 ∧ dl = 0
 ·obtain ⟨hb0,hd0⟩:=hz
  have hd0':data = []:=List.length_eq_zero_iff.1 (by omega)
  have hT0:T0 = Stt.zero:=by
   rcases hIm with ⟨_,_,e⟩ | ⟨e,_⟩
   ·exact e
   ·have:=imgS_ne T0
    rw [← e] at this; omega
  have hb0':¬ 0 < base:=by omega
  have hd0'':¬ 0 < dl:=by omega
  simp -dsimp [go_sem,hb0',hd0'',hbw]
  have hFS2:∀ k,FS k → w.heap.size ≤ k ∧ k < w2.heap.size:=fun k hk => ⟨(hFS k hk).1,Nat.lt_of_lt_of_le (hFS k hk).2 k2.size⟩
  have hT2:SttA w2 t T0 FS (fun k => V k ∨ FS k):=by rw [hT0]; exact hT.nw k2
  refine loop [2,3,8,9,10,11,12,13,37,38,39,40,41,42,43,44,45,46,47,48,49,50,51,52,53,54,55,56,57,58,59,60,61,62,63,64] (by kernel_rfl)
   (fun f w' => Box1 (fun a w' => ∃ (j i:Nat) (Tj:Stt) (FSj:Nat → Prop),a = i64 i ∧ i = base + 1 + j ∧ j ≤ qs.length ∧ Rp Tj (qs.drop j) T ∧ Tj.Ok ∧ (∀ k,FSj k → w.heap.size ≤ k ∧ k < w'.heap.size) ∧ SttA w' t Tj FSj (fun k => V k ∨ FSj k) ∧ Nw w w') (f 8) w') (fun f _ => base + 1 + qs.length - (intOf (f 8)).toNat)
   ⟨0,b1,T0,_,rfl,by omega,Nat.zero_le _,by rw [List.drop_zero]; exact hRp,hIm.ok,hFS2,hT2,n2⟩ ?_
  rintro f w5 ⟨j,i,Tj,FSj,f8,hij,hj,hRj,okj,hFSj,hTj,n5⟩
  have hL5:=h.nw n5
  simp -dsimp [go_sem,f8]
  refine call (last_spec l g mailN _ G V w5 hL5 lok) ?_
  rintro v w6 ⟨rfl,k6⟩
  rw [hlast]
  have n6:=n5.nw k6
  have hL6:=hL5.nw k6
  by_cases hlt:j < qs.length
  ·have hle:i ≤ base + qs.length:=by omega
   have hle':(i:Int) ≤ ((base + qs.length:Nat):Int):=by omega
   have hi1:IntKind.i64.wrap ((i:Int) + 1) = ((i + 1:Nat):Int):=by rw [w64 (by omega) (by omega)]; omega
   obtain ⟨i1,hi1'⟩:∃ i1,i1 = i + 1:=⟨_,rfl⟩
   rw [← hi1'] at hi1
   have hat:lAt ⟨base,data,qs,false⟩ (i:Int) = (qs[j],0):=by
    unfold lAt
    rw [if_neg (by rw [hlast]; simp only; omega)]
    have e:(i - base - 1:Int).toNat = j:=by omega
    simp only [e]
    simp [List.getD,hlt]
   generalize hLS:base + qs.length = LS at *
   simp -dsimp [go_sem,hle,hle',f8]
   refine call (at_spec (i:Int) l g mailN _ G V w6 hL6 lok (by omega)) ?_
   rw [hat]
   rintro v w7 ⟨k7,u7,rfl,hB7⟩
   obtain ⟨X7,x7,rfl,hoX7,_⟩:=hB7
   have n7:=n6.nw k7
   rw [List.drop_eq_getElem_cons hlt] at hRj
   generalize qs[j] = eb at *
   cases hRj with
   | cons h1 h2 h3 =>
    rename_i c
    have hel2:=encC_len (chgOk_ok h1)
    obtain ⟨hde,hdo⟩:=chDec_enc h1
    simp -dsimp [go_sem]
    refine call (chDecode_spec (encC c) X7 x7 w7 hoX7.rd (by omega)) ?_
    rw [hdo,hde]
    rintro v w8 ⟨hD,k8⟩
    have n8:=n7.nw k8
    rcases hD with ⟨_,u8,rfl,hRC⟩ | ⟨hno,_⟩
    ·obtain ⟨A,ca,B,cb,rfl,hca,hcb,hrA,hoA,hrB,hoB⟩:=hRC
     simp -dsimp [go_sem]
     have ka:Nw w8 (w8.alloc (.cells (chV c A ca B cb) 25)):=(Kp.refl _ _).alloc _
     have hka:(w8.alloc (.cells (chV c A ca B cb) 25)) = w8.alloc (.cells #[i64 c.kind,str c.user,str c.pass,str c.box,str c.to,.slice A c.uids.length ca,i64 c.mode,i64 c.flags,i64 c.date,.slice B c.body.length cb] 25):=rfl
     rw [hka] at ka
     generalize w8.alloc (.cells #[i64 c.kind,str c.user,str c.pass,str c.box,str c.to,.slice A c.uids.length ca,i64 c.mode,i64 c.flags,i64 c.date,.slice B c.body.length cb] 25) = w9 at *
     have n9:=n8.nw ka
     have s57:w5.heap.size ≤ w7.heap.size:=by have:=k6.size; have:=k7.size; omega
     have k59:Nw w5 w9:=((k6.nw k7).nw k8).nw ka
     have hVo:∀ k,(V k ∨ FSj k) → k < w7.heap.size:=fun k hk => hk.elim (fun e => Nat.lt_of_lt_of_le (hVl k e) n7.size) fun e => by have:=hFSj k e; omega
     have hRC9:RC w9 (.agg (chV c A ca B cb)) c (fun k => V k ∨ FSj k):=⟨A,ca,B,cb,rfl,hca,hcb,hrA.nw ka,fun a ha hx hv => hoA a ha hx (hVo _ hv),hrB.nw ka,fun a ha hx hv => hoB a ha hx (hVo _ hv)⟩
     refine call (plans_spec t Tj FSj (fun k => V k ∨ FSj k) c (.agg (chV c A ca B cb)) w9 (hTj.nw k59) okj (fun k hk => Nat.lt_of_lt_of_le (hVo k hk) (Nat.le_trans k8.size ka.size)) hRC9 h1) ?_
     rintro v w10 ⟨hP,k10⟩
     have hpo:=plan_ok okj h1
     rcases hP with ⟨hne,_⟩ | ⟨_,fv,rfl,fid,caps,rfl,hgo,hcal⟩
     ·exact absurd h2 hne
     ·generalize (plan Tj c).2.1 = pn at *
      generalize (plan Tj c).2.2 = T' at *
      simp -dsimp [go_sem,hgo]
      have kb:Nw w10 (w10.alloc (.cells #[.func (.func fid) #[] caps,i64 pn,i64 0] 100)):=(Kp.refl _ _).alloc _
      generalize w10.alloc (.cells #[.func (.func fid) #[] caps,i64 pn,i64 0] 100) = w11 at *
      refine call (hcal (fun _ => False) (fun k => V k ∨ FSj k) w11 kb (fun _ e => e.elim) (fun i hi => .inl hi) fun i hi => hi) ?_
      rintro v w12 ⟨rfl,F1,V1,hT12,gF,gV,vv,k12⟩
      have n11:=(n9.nw k10).nw kb
      have s511:w5.heap.size ≤ w11.heap.size:=by have:=k59.size; have:=k10.size; have:=kb.size; omega
      have n12:Nw w w12:=n11.at_ k12 fun k hk => (hFSj k hk).1
      simp -dsimp [go_sem,f8,hi1]
      refine ⟨⟨j + 1,i1,T',F1,rfl,by omega,by omega,h3,hpo,fun k hk => (gF k hk).elim (fun e => ⟨(hFSj k e).1,by have:=hFSj k e; have:=k12.size; omega⟩) fun e => ⟨by have:=n11.size; omega,e.2⟩,hT12.narrow (fun k hk => hk.elim (fun e => vv k (.inl e)) (hT12.fv k)) fun k hk => .inr hk,n12⟩,by simp [intOf]; omega⟩
    ·cases hno
  ·have hjq:j = qs.length:=by omega
   have hle:¬ i ≤ base + qs.length:=by omega
   have hle':¬ (i:Int) ≤ ((base + qs.length:Nat):Int):=by omega
   rw [hjq,List.drop_length] at hRj
   cases hRj
   generalize hLS:base + qs.length = LS at *
   simp -dsimp [go_sem,hle,hle']
   exact ⟨t,FSj,rfl,n6,fun k hk => ⟨(hFSj k hk).1,Nat.lt_of_lt_of_le (hFSj k hk).2 k6.size⟩,hTj.nw k6⟩
 ·have hdT:data = imgS T0 ∧ T0.Ok:=by
   rcases hIm with ⟨e1,e2,_⟩ | e
   ·exact absurd ⟨e1,by rw [hdl,e2]; rfl⟩ hz
   ·exact e
  have hd0:0 < dl:=by rw [hdl,hdT.1]; exact imgS_ne T0
  have hd0':(0:Int) < (dl:Int):=by omega
  have hrX:Rd w2 X ((imgS T0).map u8):=by rw [← hdT.1]; exact hoX.rd
  have himg:=simaged_spec T0 V X x w2 hdT.2 (fun k hk => Nat.lt_of_lt_of_le (hVl k hk) n2.size) hrX
  rw [← hdT.1,← hdl] at himg
  by_cases hb0:0 < base
  ·have hb0':(0:Int) < (base:Int):=by omega
   simp -dsimp [go_sem,hb0,hb0']
   refine call himg ?_
   rintro v w3 ⟨t,FS,rfl,k3,hFS3,hT3⟩
   have n3:=n2.nw k3
   have hFS3':∀ k,FS k → w.heap.size ≤ k ∧ k < w3.heap.size:=fun k hk => ⟨by have:=hFS3 k hk; have:=n2.size; omega,(hFS3 k hk).2⟩
   simp -dsimp [go_sem,hbw]
   refine loop [2,3,8,9,10,11,12,13,37,38,39,40,41,42,43,44,45,46,47,48,49,50,51,52,53,54,55,56,57,58,59,60,61,62,63,64] (by kernel_rfl)
    (fun f w' => Box1 (fun a w' => ∃ (j i:Nat) (Tj:Stt) (FSj:Nat → Prop),a = i64 i ∧ i = base + 1 + j ∧ j ≤ qs.length ∧ Rp Tj (qs.drop j) T ∧ Tj.Ok ∧ (∀ k,FSj k → w.heap.size ≤ k ∧ k < w'.heap.size) ∧ SttA w' t Tj FSj (fun k => V k ∨ FSj k) ∧ Nw w w') (f 8) w') (fun f _ => base + 1 + qs.length - (intOf (f 8)).toNat)
    ⟨0,b1,T0,_,rfl,by omega,Nat.zero_le _,by rw [List.drop_zero]; exact hRp,hIm.ok,hFS3',hT3,n3⟩ ?_
   rintro f w5 ⟨j,i,Tj,FSj,f8,hij,hj,hRj,okj,hFSj,hTj,n5⟩
   have hL5:=h.nw n5
   simp -dsimp [go_sem,f8]
   refine call (last_spec l g mailN _ G V w5 hL5 lok) ?_
   rintro v w6 ⟨rfl,k6⟩
   rw [hlast]
   have n6:=n5.nw k6
   have hL6:=hL5.nw k6
   by_cases hlt:j < qs.length
   ·have hle:i ≤ base + qs.length:=by omega
    have hle':(i:Int) ≤ ((base + qs.length:Nat):Int):=by omega
    have hi1:IntKind.i64.wrap ((i:Int) + 1) = ((i + 1:Nat):Int):=by rw [w64 (by omega) (by omega)]; omega
    obtain ⟨i1,hi1'⟩:∃ i1,i1 = i + 1:=⟨_,rfl⟩
    rw [← hi1'] at hi1
    have hat:lAt ⟨base,data,qs,false⟩ (i:Int) = (qs[j],0):=by
     unfold lAt
     rw [if_neg (by rw [hlast]; simp only; omega)]
     have e:(i - base - 1:Int).toNat = j:=by omega
     simp only [e]
     simp [List.getD,hlt]
    generalize hLS:base + qs.length = LS at *
    simp -dsimp [go_sem,hle,hle',f8]
    refine call (at_spec (i:Int) l g mailN _ G V w6 hL6 lok (by omega)) ?_
    rw [hat]
    rintro v w7 ⟨k7,u7,rfl,hB7⟩
    obtain ⟨X7,x7,rfl,hoX7,_⟩:=hB7
    have n7:=n6.nw k7
    rw [List.drop_eq_getElem_cons hlt] at hRj
    generalize qs[j] = eb at *
    cases hRj with
    | cons h1 h2 h3 =>
     rename_i c
     have hel2:=encC_len (chgOk_ok h1)
     obtain ⟨hde,hdo⟩:=chDec_enc h1
     simp -dsimp [go_sem]
     refine call (chDecode_spec (encC c) X7 x7 w7 hoX7.rd (by omega)) ?_
     rw [hdo,hde]
     rintro v w8 ⟨hD,k8⟩
     have n8:=n7.nw k8
     rcases hD with ⟨_,u8,rfl,hRC⟩ | ⟨hno,_⟩
     ·obtain ⟨A,ca,B,cb,rfl,hca,hcb,hrA,hoA,hrB,hoB⟩:=hRC
      simp -dsimp [go_sem]
      have ka:Nw w8 (w8.alloc (.cells (chV c A ca B cb) 25)):=(Kp.refl _ _).alloc _
      have hka:(w8.alloc (.cells (chV c A ca B cb) 25)) = w8.alloc (.cells #[i64 c.kind,str c.user,str c.pass,str c.box,str c.to,.slice A c.uids.length ca,i64 c.mode,i64 c.flags,i64 c.date,.slice B c.body.length cb] 25):=rfl
      rw [hka] at ka
      generalize w8.alloc (.cells #[i64 c.kind,str c.user,str c.pass,str c.box,str c.to,.slice A c.uids.length ca,i64 c.mode,i64 c.flags,i64 c.date,.slice B c.body.length cb] 25) = w9 at *
      have n9:=n8.nw ka
      have s57:w5.heap.size ≤ w7.heap.size:=by have:=k6.size; have:=k7.size; omega
      have k59:Nw w5 w9:=((k6.nw k7).nw k8).nw ka
      have hVo:∀ k,(V k ∨ FSj k) → k < w7.heap.size:=fun k hk => hk.elim (fun e => Nat.lt_of_lt_of_le (hVl k e) n7.size) fun e => by have:=hFSj k e; omega
      have hRC9:RC w9 (.agg (chV c A ca B cb)) c (fun k => V k ∨ FSj k):=⟨A,ca,B,cb,rfl,hca,hcb,hrA.nw ka,fun a ha hx hv => hoA a ha hx (hVo _ hv),hrB.nw ka,fun a ha hx hv => hoB a ha hx (hVo _ hv)⟩
      refine call (plans_spec t Tj FSj (fun k => V k ∨ FSj k) c (.agg (chV c A ca B cb)) w9 (hTj.nw k59) okj (fun k hk => Nat.lt_of_lt_of_le (hVo k hk) (Nat.le_trans k8.size ka.size)) hRC9 h1) ?_
      rintro v w10 ⟨hP,k10⟩
      have hpo:=plan_ok okj h1
      rcases hP with ⟨hne,_⟩ | ⟨_,fv,rfl,fid,caps,rfl,hgo,hcal⟩
      ·exact absurd h2 hne
      ·generalize (plan Tj c).2.1 = pn at *
       generalize (plan Tj c).2.2 = T' at *
       simp -dsimp [go_sem,hgo]
       have kb:Nw w10 (w10.alloc (.cells #[.func (.func fid) #[] caps,i64 pn,i64 0] 100)):=(Kp.refl _ _).alloc _
       generalize w10.alloc (.cells #[.func (.func fid) #[] caps,i64 pn,i64 0] 100) = w11 at *
       refine call (hcal (fun _ => False) (fun k => V k ∨ FSj k) w11 kb (fun _ e => e.elim) (fun i hi => .inl hi) fun i hi => hi) ?_
       rintro v w12 ⟨rfl,F1,V1,hT12,gF,gV,vv,k12⟩
       have n11:=(n9.nw k10).nw kb
       have s511:w5.heap.size ≤ w11.heap.size:=by have:=k59.size; have:=k10.size; have:=kb.size; omega
       have n12:Nw w w12:=n11.at_ k12 fun k hk => (hFSj k hk).1
       simp -dsimp [go_sem,f8,hi1]
       refine ⟨⟨j + 1,i1,T',F1,rfl,by omega,by omega,h3,hpo,fun k hk => (gF k hk).elim (fun e => ⟨(hFSj k e).1,by have:=hFSj k e; have:=k12.size; omega⟩) fun e => ⟨by have:=n11.size; omega,e.2⟩,hT12.narrow (fun k hk => hk.elim (fun e => vv k (.inl e)) (hT12.fv k)) fun k hk => .inr hk,n12⟩,by simp [intOf]; omega⟩
     ·cases hno
   ·have hjq:j = qs.length:=by omega
    have hle:¬ i ≤ base + qs.length:=by omega
    have hle':¬ (i:Int) ≤ ((base + qs.length:Nat):Int):=by omega
    rw [hjq,List.drop_length] at hRj
    cases hRj
    generalize hLS:base + qs.length = LS at *
    simp -dsimp [go_sem,hle,hle']
    exact ⟨t,FSj,rfl,n6,fun k hk => ⟨(hFSj k hk).1,Nat.lt_of_lt_of_le (hFSj k hk).2 k6.size⟩,hTj.nw k6⟩
  ·have hb0':¬ (0:Int) < (base:Int):=by omega
   simp -dsimp [go_sem,hb0,hb0',hd0,hd0']
   refine call himg ?_
   rintro v w3 ⟨t,FS,rfl,k3,hFS3,hT3⟩
   have n3:=n2.nw k3
   have hFS3':∀ k,FS k → w.heap.size ≤ k ∧ k < w3.heap.size:=fun k hk => ⟨by have:=hFS3 k hk; have:=n2.size; omega,(hFS3 k hk).2⟩
   simp -dsimp [go_sem,hbw]
   refine loop [2,3,8,9,10,11,12,13,37,38,39,40,41,42,43,44,45,46,47,48,49,50,51,52,53,54,55,56,57,58,59,60,61,62,63,64] (by kernel_rfl)
    (fun f w' => Box1 (fun a w' => ∃ (j i:Nat) (Tj:Stt) (FSj:Nat → Prop),a = i64 i ∧ i = base + 1 + j ∧ j ≤ qs.length ∧ Rp Tj (qs.drop j) T ∧ Tj.Ok ∧ (∀ k,FSj k → w.heap.size ≤ k ∧ k < w'.heap.size) ∧ SttA w' t Tj FSj (fun k => V k ∨ FSj k) ∧ Nw w w') (f 8) w') (fun f _ => base + 1 + qs.length - (intOf (f 8)).toNat)
    ⟨0,b1,T0,_,rfl,by omega,Nat.zero_le _,by rw [List.drop_zero]; exact hRp,hIm.ok,hFS3',hT3,n3⟩ ?_
   rintro f w5 ⟨j,i,Tj,FSj,f8,hij,hj,hRj,okj,hFSj,hTj,n5⟩
   have hL5:=h.nw n5
   simp -dsimp [go_sem,f8]
   refine call (last_spec l g mailN _ G V w5 hL5 lok) ?_
   rintro v w6 ⟨rfl,k6⟩
   rw [hlast]
   have n6:=n5.nw k6
   have hL6:=hL5.nw k6
   by_cases hlt:j < qs.length
   ·have hle:i ≤ base + qs.length:=by omega
    have hle':(i:Int) ≤ ((base + qs.length:Nat):Int):=by omega
    have hi1:IntKind.i64.wrap ((i:Int) + 1) = ((i + 1:Nat):Int):=by rw [w64 (by omega) (by omega)]; omega
    obtain ⟨i1,hi1'⟩:∃ i1,i1 = i + 1:=⟨_,rfl⟩
    rw [← hi1'] at hi1
    have hat:lAt ⟨base,data,qs,false⟩ (i:Int) = (qs[j],0):=by
     unfold lAt
     rw [if_neg (by rw [hlast]; simp only; omega)]
     have e:(i - base - 1:Int).toNat = j:=by omega
     simp only [e]
     simp [List.getD,hlt]
    generalize hLS:base + qs.length = LS at *
    simp -dsimp [go_sem,hle,hle',f8]
    refine call (at_spec (i:Int) l g mailN _ G V w6 hL6 lok (by omega)) ?_
    rw [hat]
    rintro v w7 ⟨k7,u7,rfl,hB7⟩
    obtain ⟨X7,x7,rfl,hoX7,_⟩:=hB7
    have n7:=n6.nw k7
    rw [List.drop_eq_getElem_cons hlt] at hRj
    generalize qs[j] = eb at *
    cases hRj with
    | cons h1 h2 h3 =>
     rename_i c
     have hel2:=encC_len (chgOk_ok h1)
     obtain ⟨hde,hdo⟩:=chDec_enc h1
     simp -dsimp [go_sem]
     refine call (chDecode_spec (encC c) X7 x7 w7 hoX7.rd (by omega)) ?_
     rw [hdo,hde]
     rintro v w8 ⟨hD,k8⟩
     have n8:=n7.nw k8
     rcases hD with ⟨_,u8,rfl,hRC⟩ | ⟨hno,_⟩
     ·obtain ⟨A,ca,B,cb,rfl,hca,hcb,hrA,hoA,hrB,hoB⟩:=hRC
      simp -dsimp [go_sem]
      have ka:Nw w8 (w8.alloc (.cells (chV c A ca B cb) 25)):=(Kp.refl _ _).alloc _
      have hka:(w8.alloc (.cells (chV c A ca B cb) 25)) = w8.alloc (.cells #[i64 c.kind,str c.user,str c.pass,str c.box,str c.to,.slice A c.uids.length ca,i64 c.mode,i64 c.flags,i64 c.date,.slice B c.body.length cb] 25):=rfl
      rw [hka] at ka
      generalize w8.alloc (.cells #[i64 c.kind,str c.user,str c.pass,str c.box,str c.to,.slice A c.uids.length ca,i64 c.mode,i64 c.flags,i64 c.date,.slice B c.body.length cb] 25) = w9 at *
      have n9:=n8.nw ka
      have s57:w5.heap.size ≤ w7.heap.size:=by have:=k6.size; have:=k7.size; omega
      have k59:Nw w5 w9:=((k6.nw k7).nw k8).nw ka
      have hVo:∀ k,(V k ∨ FSj k) → k < w7.heap.size:=fun k hk => hk.elim (fun e => Nat.lt_of_lt_of_le (hVl k e) n7.size) fun e => by have:=hFSj k e; omega
      have hRC9:RC w9 (.agg (chV c A ca B cb)) c (fun k => V k ∨ FSj k):=⟨A,ca,B,cb,rfl,hca,hcb,hrA.nw ka,fun a ha hx hv => hoA a ha hx (hVo _ hv),hrB.nw ka,fun a ha hx hv => hoB a ha hx (hVo _ hv)⟩
      refine call (plans_spec t Tj FSj (fun k => V k ∨ FSj k) c (.agg (chV c A ca B cb)) w9 (hTj.nw k59) okj (fun k hk => Nat.lt_of_lt_of_le (hVo k hk) (Nat.le_trans k8.size ka.size)) hRC9 h1) ?_
      rintro v w10 ⟨hP,k10⟩
      have hpo:=plan_ok okj h1
      rcases hP with ⟨hne,_⟩ | ⟨_,fv,rfl,fid,caps,rfl,hgo,hcal⟩
      ·exact absurd h2 hne
      ·generalize (plan Tj c).2.1 = pn at *
       generalize (plan Tj c).2.2 = T' at *
       simp -dsimp [go_sem,hgo]
       have kb:Nw w10 (w10.alloc (.cells #[.func (.func fid) #[] caps,i64 pn,i64 0] 100)):=(Kp.refl _ _).alloc _
       generalize w10.alloc (.cells #[.func (.func fid) #[] caps,i64 pn,i64 0] 100) = w11 at *
       refine call (hcal (fun _ => False) (fun k => V k ∨ FSj k) w11 kb (fun _ e => e.elim) (fun i hi => .inl hi) fun i hi => hi) ?_
       rintro v w12 ⟨rfl,F1,V1,hT12,gF,gV,vv,k12⟩
       have n11:=(n9.nw k10).nw kb
       have s511:w5.heap.size ≤ w11.heap.size:=by have:=k59.size; have:=k10.size; have:=kb.size; omega
       have n12:Nw w w12:=n11.at_ k12 fun k hk => (hFSj k hk).1
       simp -dsimp [go_sem,f8,hi1]
       refine ⟨⟨j + 1,i1,T',F1,rfl,by omega,by omega,h3,hpo,fun k hk => (gF k hk).elim (fun e => ⟨(hFSj k e).1,by have:=hFSj k e; have:=k12.size; omega⟩) fun e => ⟨by have:=n11.size; omega,e.2⟩,hT12.narrow (fun k hk => hk.elim (fun e => vv k (.inl e)) (hT12.fv k)) fun k hk => .inr hk,n12⟩,by simp [intOf]; omega⟩
     ·cases hno
   ·have hjq:j = qs.length:=by omega
    have hle:¬ i ≤ base + qs.length:=by omega
    have hle':¬ (i:Int) ≤ ((base + qs.length:Nat):Int):=by omega
    rw [hjq,List.drop_length] at hRj
    cases hRj
    generalize hLS:base + qs.length = LS at *
    simp -dsimp [go_sem,hle,hle']
    exact ⟨t,FSj,rfl,n6,fun k hk => ⟨(hFSj k hk).1,Nat.lt_of_lt_of_le (hFSj k hk).2 k6.size⟩,hTj.nw k6⟩
/-- How heavy all are, up to so many. -/
def heavyL (q:List CQ) (i:Nat):Nat:=((q.take i).map fun p => heavyN p.1).sum
theorem heavyN_le {w:World} {p:CQ} (h:ChgG w p):heavyN p.1 ≤ 844424930131969:=by
 obtain ⟨h1,h2,h3,h4,h5,h6,_⟩:=h.sz.1
 unfold heavyN
 omega
theorem heavyL_succ {q:List CQ} {i:Nat} (hi:i < q.length):heavyL q (i + 1) = heavyL q i + heavyN q[i].1:=by
 unfold heavyL
 rw [List.take_succ_eq_append_getElem hi,List.map_append,List.sum_append]
 simp
theorem heavyL_le {w:World} {q:List CQ} (h:∀ p ∈ q,ChgG w p):∀ i,i ≤ q.length → heavyL q i ≤ i * 844424930131969
 | 0,_ => by simp [heavyL]
 | i + 1,hi => by
  rw [heavyL_succ (by omega),Nat.add_mul]
  have:=heavyL_le h i (by omega)
  have:=heavyN_le (h q[i] (List.getElem_mem (by omega)))
  omega
theorem heavyL_one {q:List CQ}:∀ {n i:Nat},i < n → n ≤ q.length → ∀ (hi:i < q.length),heavyN q[i].1 ≤ heavyL q n
 | 0,i,h,_,_ => by omega
 | n + 1,i,h,hn,hi => by
  rw [heavyL_succ (by omega)]
  by_cases e:i = n
  ·subst e; omega
  ·have:=heavyL_one (q:=q) (show i < n by omega) (by omega) hi
   omega
theorem rd_old {w:World} {A:Option Addr} {xs:List Value} (h:Rd w A xs) (hx:xs ≠ []):∀ a,A = some a → a.block < w.heap.size:=fun a ha => by
 have:=h.ofl (S:=fun k => w.heap.size ≤ k) (fun i hi => hi) a ha hx
 omega
theorem ccells_ne {q:List CQ} {i:Nat} (hi:i < q.length):q.flatMap ccells ≠ []:=fun e => by
 have:=List.flatMap_eq_nil_iff.1 e q[i] (List.getElem_mem hi)
 cases this
theorem texts_spec (a b:List Nm) (A B:Option Addr) (ca cb:Nat) (w:World) (hA:Rd w A (a.map fun s => str s)) (hB:Rd w B (b.map fun s => str s)) (la:a.length ≤ 1000000) (lb:b.length ≤ 1000000) :
  Cal Tryz.prog 19 #[.slice A a.length ca,.slice B b.length cb] w fun v w' => v = .bool (decide (a = b)) ∧ Nw w w':=by
 refine enter Tryz.mixed Tryz.func19 rfl (by kernel_rfl) ?_
 obtain ⟨n,hn⟩:∃ n,n = a.length:=⟨_,rfl⟩
 obtain ⟨m,hm⟩:∃ m,m = b.length:=⟨_,rfl⟩
 rw [← hn,← hm]
 by_cases hl:n = m
 ·have hl':((n:Int) != (m:Int)) = false:=by simp [hl]
  simp -dsimp [go_sem,hl']
  refine loop [4,5,11,12,13,14,15,16,17,18,19,20,21,22,23,24,25] (by kernel_rfl)
   (fun f w' => Box1 (fun x w' => ∃ i:Nat,x = i64 i ∧ i ≤ n ∧ a.take i = b.take i ∧ Nw w w') (f 5) w') (fun f _ => n - (intOf (f 5)).toNat)
   ⟨0,rfl,Nat.zero_le _,by simp,Kp.refl _ _⟩ ?_
  rintro f w1 ⟨i,f5,hi,ht,k1⟩
  by_cases hlt:i < n
  ·have hi1:IntKind.i64.wrap ((i:Int) + 1) = ((i + 1:Nat):Int):=by rw [w64 (by omega) (by omega)]; omega
   obtain ⟨i1,hi1'⟩:∃ i1,i1 = i + 1:=⟨_,rfl⟩
   rw [← hi1'] at hi1
   have hia:i < a.length:=by omega
   have hib:i < b.length:=by omega
   obtain ⟨gA,oA,rfl,cA1⟩:=hA i (str a[i]) (by simp [hia])
   obtain ⟨gB,oB,rfl,cB1⟩:=hB i (str b[i]) (by simp [hib])
   have cA:=k1.cell_some cA1 fun h => h
   have cB:=k1.cell_some cB1 fun h => h
   have hla:a.take i1 = a.take i ++ [a[i]]:=by rw [hi1',List.take_succ_eq_append_getElem hia]
   have hlb:b.take i1 = b.take i ++ [b[i]]:=by rw [hi1',List.take_succ_eq_append_getElem hib]
   have hne:a[i] ≠ b[i] → a ≠ b:=fun h e => by subst e; exact h rfl
   have hltm:i < m:=by omega
   generalize a[i] = x at *
   generalize b[i] = y at *
   simp -dsimp [go_sem,f5,hlt]
   refine draw (.take 0 (.take 1 (.take 2 (.take 3 (.take 4 (.take 5 (.take 6 (.take 7 (.take 8 .done))))))))) (by kernel_rfl) (fun wz => Nw w1 wz) ((Kp.refl _ _).drew) ?_
   have kd:Nw w1 w1.drew:=(Kp.refl _ _).drew
   by_cases hxy:x = y
   ·have hb:(x == y) = true:=by simpa using hxy
    simp -dsimp [go_sem,f5,hlt,hltm,cA,cB,hb,hi1]
    refine ⟨fun wz hz => by simp [hz.cell_some cA fun h => h],fun wz hz => by simp [hz.cell_some cB fun h => h],⟨i1,rfl,by omega,by rw [hla,hlb,ht,hxy],k1.nw kd⟩,by simp [intOf]; omega⟩
   ·have hb:(x == y) = false:=by simpa using hxy
    simp -dsimp [go_sem,f5,hlt,hltm,cA,cB,hb]
    refine ⟨fun wz hz => by simp [hz.cell_some cA fun h => h],fun wz hz => by simp [hz.cell_some cB fun h => h],by simpa using hne hxy,k1.nw kd⟩
  ·have hin:i = n:=by omega
   have e:a = b:=by
    rw [hin,hn,List.take_length] at ht
    rw [ht,← hn,hl,hm,List.take_length]
   simp -dsimp [go_sem,f5,hlt]
   exact ⟨by simpa using e,k1⟩
 ·have hl':((n:Int) != (m:Int)) = true:=by simp; omega
  have hne:a ≠ b:=fun e => hl (by rw [hn,hm,e])
  simp -dsimp [go_sem,hl']
  exact ⟨by simpa using hne,Kp.refl _ _⟩
theorem sopen_gd (g:Nat) (D D':Dsk) (base:Nat) (data:List UInt8) (qs:List (List UInt8)) (T:Stt) (F:Nat → Prop) (w:World) (h:Dk w g D F) (ho:opn D mailN = (D',0,⟨base,data,qs,false⟩)) (gd:Gd base data qs T) :
  Cal Tryz.prog 17 #[.pointer (some ⟨g,0,none⟩)] w fun v w' => SOpenR w w' v g ⟨D',⟨base,data,qs,false⟩,T,false⟩ F :=
 sopen_of g D D' _ T F w h ho fun l G V W hL ok => loaded_spec l g base data qs T G V W hL ok gd
/-- Another store on the same disk: the older one stands, on the disk as it is now. -/
theorem Sm.beside {w0 w w1:World} {s g l t s2 l2 t2:Nat} {S S2:Sto} {U E F F2 G G2 FS FS2 V V2:Nat → Prop} (h1:StM w s g l t S F G FS V) (h2:∀ k,V k → w0.heap.size ≤ k) (h3:Nw w0 w) (h4:∀ k,U k → V k ∧ ¬ F k ∧ ¬ G k ∧ ¬ FS k ∧ k ≠ s) (h5:∀ k,E k → ¬ V k ∧ k < w.heap.size)
  (h:StM w1 s2 g l2 t2 S2 F2 G2 FS2 V2) (gV:Gr F V2 w w1) (k:Kp F w w1):Sm w0 w1 s g l t ⟨S2.D,S.L,S.T,S.dead⟩ U E ∧ Sm w0 w1 s2 g l2 t2 S2 (fun _ => False) (fun _ => False):=by
 have hVl:=h1.lt
 have hV2l:=h.lt
 have hF2:∀ i,F2 i → F i ∨ w.heap.size ≤ i:=fun i hi => (gV i (h.fv i hi)).imp id fun e => e.1
 have n1:Nw w0 w1:=h3.at_ k fun i hi => h2 i (h1.fv i hi)
 have hFn:∀ i,F i → ¬ G i ∧ ¬ FS i ∧ i ≠ s:=fun i hi => ⟨h1.ls.dj i hi,fun e => (h1.apF i e).1 hi,fun e => h1.sap.1 (e ▸ hi)⟩
 have hs:=h1.sl
 have hG:Gr V (fun i => V i ∨ V2 i) w w1:=fun i hi => hi.elim .inl fun e => (gV i e).imp (h1.fv i) id
 refine ⟨⟨F2,G,FS,fun i => V i ∨ V2 i,⟨h1.blk.kp k h1.sap.1,⟨h.ls.dk,h1.ls.lg.step k (fun i hi => ⟨h1.fv i hi,(hFn i hi).1⟩) hG fun i hi => .inl hi,fun i hi => .inr (h.fv i hi),fun i hi e => ?_⟩,h1.lok,h1.st.step k (fun i hi => ⟨h1.fv i hi,(hFn i hi).2.1⟩) hG fun i hi => .inl hi,fun i hi => ⟨fun e => ?_,(h1.apF i hi).2⟩,.inl h1.sv,fun e => ?_,h1.sap.2⟩,fun i hi => ?_,n1,fun i hi => ?_,fun i hi => ⟨fun e => ?_,Nat.lt_of_lt_of_le (h5 i hi).2 k.size⟩⟩,
  ⟨F2,G2,FS2,V2,h,fun i hi => ?_,n1,fun _ e => e.elim,fun _ e => e.elim⟩⟩
 ·exact (hF2 i hi).elim (fun e2 => (hFn i e2).1 e) fun e2 => by have:=hVl i (h1.gv i e); omega
 ·exact (hF2 i e).elim (fun e2 => (hFn i e2).2.1 hi) fun e2 => by have:=hVl i (h1.fsv i hi); omega
 ·exact (hF2 s e).elim h1.sap.1 fun e2 => by omega
 ·rcases hi with hi | hi
  ·exact h2 i hi
  ·exact (gV i hi).elim (fun e => h2 i (h1.fv i e)) fun e => Nat.le_trans h3.size e.1
 ·obtain ⟨a1,a2,a3,a4,a5⟩:=h4 i hi
  have:=hVl i a1
  exact ⟨.inl a1,fun e => (hF2 i e).elim a2 fun e2 => by omega,a3,a4,a5⟩
 ·rcases e with e | e
  ·exact (h5 i hi).1 e
  ·exact (gV i e).elim (fun e2 => (h5 i hi).1 (h1.fv i e2)) fun e2 => by have:=(h5 i hi).2; omega
 ·exact (gV i hi).elim (fun e => h2 i (h1.fv i e)) fun e => Nat.le_trans h3.size e.1
end Go.Proofs.YtellahclbhfdiaaGreatDoor
