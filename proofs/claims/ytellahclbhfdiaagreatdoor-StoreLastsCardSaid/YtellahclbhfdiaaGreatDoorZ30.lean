/-
  A state as bytes: image walked. By the session itself. A store in memory: what its steps may turn; a store in a law. By the session itself. A store's writes, walked. By the session itself.
-/
import Derived.Test.YtellahclbhfdiaaGreatDoorZ29
import Derived.Test.YtellahclbhfdiaaGreatDoorZ27
import Derived.Test.YtellahclbhfdiaaGreatDoorZ26
namespace Go.Proofs.YtellahclbhfdiaaGreatDoor
set_option linter.unusedSimpArgs false
set_option linter.unusedVariables false
set_option maxRecDepth 100000
set_option maxHeartbeats 2000000
open Go.Vc Go.RowKit
theorem keysA_lt {β:Type} {l:List (Nm × β)} (h:Srt l):(keysA l).Pairwise fun x y => x < y:=List.pairwise_map.2 (List.Pairwise.imp (R:=fun x y:Nm × β => x.1 < y.1) (fun h => h) h)
theorem keysA_len {β:Type} (l:List (Nm × β)):(keysA l).length = l.length:=by simp [keysA]
theorem look_at {β:Type} {l:List (Nm × β)} (h:Srt l) {i:Nat} (hi:i < l.length):tLook l l[i].1 = some l[i].2:=(tLook_mem h).2 (List.getElem_mem hi)
theorem encU_len {u:Usr} (h:u.Ok) (i:Nat):((u.bx.take i).flatMap fun y => rowB (encX y.2)).length ≤ 119236:=by
 have h1:=flat_len (fun y:Nm × Bx => rowB (encX y.2)) 29809 (u.bx.take i) fun y hy => by
  have hb:=(h.bx y.1 y.2 ((tLook_mem h.srt).2 (List.mem_of_mem_take hy))).2
  have:=encX_len2 hb
  have:=rowB_lenq (l:=encX y.2) (by omega)
  omega
 have h2:=h.len
 have h3:(u.bx.take i).length ≤ 4:=by rw [List.length_take]; omega
 have h4:=Nat.mul_le_mul_right 29809 h3
 omega
theorem imgT_len {T:Stt} (h:T.Ok) (i:Nat):((T.us.take i).flatMap imgU).length ≤ 477600:=by
 have h1:=flat_len imgU 119400 (T.us.take i) fun x hx => by
  have hu:=h.us x.1 x.2 ((tLook_mem h.srt).2 (List.mem_of_mem_take hx))
  exact imgU_len hu.1 hu.2
 have h2:=h.len
 have h3:(T.us.take i).length ≤ 4:=by rw [List.length_take]; omega
 have h4:=Nat.mul_le_mul_right 119400 h3
 omega
theorem simage_spec (t:Nat) (T:Stt) (F V:Nat → Prop) (w:World) (h:SttA w t T F V) (ok:T.Ok) :
  Cal Tryz.prog 104 #[.pointer (some ⟨t,0,none⟩)] w fun v w' => Bs w' v (imgS T) w.heap.size ∧ Nw w w':=by
 obtain ⟨r,ptr,rb,vb,Fs,hM⟩:=h
 have hl4:=ok.len
 refine enter Tryz.mixed Tryz.func104 rfl (by kernel_rfl) ?_
 simp -dsimp [go_sem]
 have kb:Nw w (w.alloc (.cells #[.slice none 0 0] 70)):=(Kp.refl _ _).alloc _
 have hg0:=Blk.new w 70 #[.slice none 0 0]
 obtain ⟨g,hg⟩:∃ g,g = w.heap.size:=⟨_,rfl⟩
 rw [← hg] at hg0 ⊢
 have hgl:=hg0.lt
 have hW0:Wr (w.alloc (.cells #[.slice none 0 0] 70)) g [] (At g) :=
  ⟨none,0,hg0,Ow.nil _ _ _,(fun a ha => by cases ha),(fun k hk => hk.elim id fun h => h.elim),fun k (e:k = g) => by omega⟩
 generalize w.alloc (.cells #[.slice none 0 0] 70) = wb at *
 have hMb:=hM.nw kb
 have t0:=hMb.blk.cell 0
 have t1:=hMb.blk.cell 1
 have kdr:Nw wb wb.drew:=(Kp.refl _ _).drew
 have hlen:=fun wz (hz:Kp (At g) wb wz) => len_mp (ty:=3) (w:=wz) KL hmu (hMb.mp.kp hz fun (e:r = g) => by have:=hM.lt r hM.fr; omega) (keys_nodup ok.srt) (Mu_some ptr T.us)
 have hlen0:=hlen wb.drew (Nw.kp kdr _)
 rw [keysA_len] at hlen hlen0
 have htg:t ≠ g:=fun e => by have:=hM.lt t hM.ft; omega
 refine draw (.take 0 (.take 1 (.take 2 (.take 3 (.take 4 (.take 5 (.take 6 (.take 7 (.take 8 (.alt 9 (.alt 10 .done .stop) .stop)))))))))) (by kernel_rfl) (fun wz => Kp (At g) wb wz) ((Kp.refl _ _).drew) ?_
 simp -dsimp [go_sem,t0,t1,hlen0]
 have kn:Nw wb (wb.alloc (.cells #[i64 T.next,i64 T.us.length] 3)).drew:=((Kp.refl _ _).alloc _).drew
 refine ⟨fun wz hz => by simp [hz.cell_some t0 htg],fun wz hz => by simp [hz.cell_some t1 htg],fun wz hz => by simp [hlen wz hz],Nw.kp kn _,?_⟩
 refine call (wNums_spec g [] [T.next,(T.us.length:Int)] (At g) (some ⟨wb.heap.size,0,none⟩) 2 _ (hW0.kp_ kn fun _ _ h => h) ((Rd.fresh (w:=wb) rfl rfl).nw ((Kp.refl _ _).drew)) (fun a ha _ (e:a.block = g) => by cases ha; simp at e; omega) (by simp)) ?_
 rintro v w1 ⟨rfl,F1,hW1,hG1,hK1⟩
 have k1:Kp (At g) wb w1:=(Nw.kp kn _).trans hK1 fun _ _ h => h
 refine ⟨k1,?_⟩
 have nF1:∀ k,F1 k → g ≤ k:=fun k hk => (hG1 k hk).elim (fun (e:k = g) => by omega) fun e => by have:=kn.size; omega
 have n1:Nw w w1:=kb.at_ k1 fun k (e:k = g) => by omega
 have hM1:=hM.nw n1
 have t1':=hM1.blk.cell 1
 obtain ⟨pre,hpre⟩:∃ pre,pre = [] ++ numsB [T.next,(T.us.length:Int)]:=⟨_,rfl⟩
 have hprel:pre.length ≤ 18:=by
  rw [hpre,List.nil_append]
  have:=numsB_len [T.next,(T.us.length:Int)]
  simpa using this
 rw [← hpre] at hW1
 simp -dsimp [go_sem,t1']
 refine call (keysU_spec r (Mu ptr T.us) (keysA T.us) w1 hM1.mp (keysA_lt ok.srt) (Mu_some ptr T.us) (by rw [keysA_len]; omega)) ?_
 rintro v w2 ⟨k2,A,ca,rfl,hrA,hca,hAl⟩
 rw [keysA_len] at hca ⊢
 have n2:=n1.nw k2
 have sg1:g < w1.heap.size:=Nat.lt_of_lt_of_le hgl k1.size
 have sg2:w1.heap.size ≤ w2.heap.size:=k2.size
 obtain ⟨N,hN⟩:∃ N,N = T.us.length:=⟨_,rfl⟩
 rw [← hN] at hl4 ⊢
 simp -dsimp [go_sem]
 refine loop [5,6,8,9,10,28,29,30,31,32,33,34,35,36,37,38,39,40,41,42,43,44,45,46,47,48,49,50,51,52,53,54,55,56,57,58,59,60,61,62,63,64,65,66,67,68,69,70,71,72,73,74,75,76,77,78] (by kernel_rfl)
  (fun f w' => Box1 (fun a w' => ∃ (i:Nat) (F:Nat → Prop),a = i64 i ∧ i ≤ N ∧ Wr w' g (pre ++ (T.us.take i).flatMap imgU) F ∧ (∀ k,F k → k = g ∨ w2.heap.size ≤ k ∨ F1 k) ∧ Nw w w' ∧ Kp (fun k => k = g ∨ F1 k) w2 w') (f 28) w') (fun f _ => N - (intOf (f 28)).toNat)
  ⟨0,F1,rfl,Nat.zero_le _,by simpa using hW1.kp_ k2 fun _ _ h => h,fun k hk => .inr (.inr hk),n2,Kp.refl _ _⟩ ?_
 rintro f w3 ⟨i,F3,f28,hi,hW3,nF3,n3,k3⟩
 by_cases hlt:i < N
 ·have hltL:i < T.us.length:=by omega
  have hi1:IntKind.i64.wrap ((i:Int) + 1) = ((i + 1:Nat):Int):=by rw [w64 (by omega) (by omega)]; omega
  obtain ⟨i1,hi1'⟩:∃ i1,i1 = i + 1:=⟨_,rfl⟩
  have htk:(T.us.take i1).flatMap imgU = (T.us.take i).flatMap imgU ++ imgU T.us[i]:=by rw [hi1',List.take_succ_eq_append_getElem hltL,List.flatMap_append]; simp
  rw [← hi1'] at hi1
  have hrA3:Rd w3 A ((keysA T.us).map fun s => str s):=hrA.kp k3 fun a ha _ hk => by
   have:=hAl a ha
   rcases hk with hk | hk
   ·omega
   ·have:=hW1.lt_ _ hk; omega
  obtain ⟨gA,oA,rfl,cA⟩:=hrA3 i (str T.us[i].1) (by simp [keysA,hltL])
  have hlk:=look_at ok.srt hltL
  have hUO:=ok.us _ _ hlk
  have htl:=imgT_len ok i
  generalize (T.us.take i).flatMap imgU = cur at *
  generalize T.us[i] = X at *
  obtain ⟨nm,u⟩:=X
  simp only at cA hlk hUO htk
  have hM3:=hM.nw n3
  have t13:=hM3.blk.cell 1
  have hlz:=lookup_mp KL hmu (z:=.pointer none) (w:=w3) rfl hM3.mp nm false
  rw [show Mu ptr T.us nm = some (.pointer (some ⟨ptr nm,0,none⟩)) by simp [Mu,hlk]] at hlz
  have hlz:(Instr.lookup 117 (.map (some r)) (str nm) false).run Tryz.prog w3 = .ok (.pointer (some ⟨ptr nm,0,none⟩)) w3:=hlz
  simp -dsimp [go_sem,f28,hlt,cA,t13,hlz]
  obtain ⟨hU,u2,u3,u4⟩:=hM3.us _ _ hlk
  have hub:=hUO.2.len
  have unm:=(nmOk_len hUO.1).2
  have ups:=(passOk_len hUO.2.pass).2
  obtain ⟨d1,v1,hc1,hl1,kc1,hr1,ht1⟩:=convN nm w3
  have hU1:=hU.blk.nw kc1
  have p0:=hU1.cell 0
  simp -dsimp [go_sem,hc1,p0]
  obtain ⟨d2,v2,hc2,hl2,kc2,hr2,ht2⟩:=convN u.pass v1
  simp -dsimp [go_sem,hc2]
  have ke:Nw v2 (v2.alloc (.cells #[.slice (some ⟨w3.heap.size,0,none⟩) nm.length d1,.slice (some ⟨v1.heap.size,0,none⟩) u.pass.length d2] 23)):=(Kp.refl _ _).alloc _
  have k35:Nw w3 (v2.alloc (.cells #[.slice (some ⟨w3.heap.size,0,none⟩) nm.length d1,.slice (some ⟨v1.heap.size,0,none⟩) u.pass.length d2] 23)):=(kc1.nw kc2).nw ke
  have hF3l:=hW3.lt_
  have hof:∀ (q:Nat) (xs:List Value),w3.heap.size ≤ q → Ofl (some ⟨q,0,none⟩) xs F3:=fun q xs hq a ha _ hf => by
   cases ha
   have:=hF3l _ hf
   simp at this; omega
  have s1:=kc1.size
  have s2:=kc2.size
  have hRV:RV (v2.alloc (.cells #[.slice (some ⟨w3.heap.size,0,none⟩) nm.length d1,.slice (some ⟨v1.heap.size,0,none⟩) u.pass.length d2] 23)) [.slice (some ⟨w3.heap.size,0,none⟩) nm.length d1,.slice (some ⟨v1.heap.size,0,none⟩) u.pass.length d2] [nm,u.pass] F3 :=
   (RV.one ((hr1.nw kc2).nw ke) (hof _ _ (Nat.le_refl _)) hl1).append (RV.one (hr2.nw ke) (hof _ _ (by omega)) hl2)
  have hbr:=hRV.brs (Rd.of_heap (Blk.new v2 23 #[.slice (some ⟨w3.heap.size,0,none⟩) nm.length d1,.slice (some ⟨v1.heap.size,0,none⟩) u.pass.length d2])) (hof _ _ (by omega))
  refine call (wBytes_spec g _ [nm,u.pass] F3 _ 2 _ (hW3.kp_ k35 fun _ _ h => h) hbr (by rw [List.length_append]; simp [load]; omega)) ?_
  rintro v w5 ⟨rfl,F5,hW5,hG5,hK5⟩
  have s23:=k3.size
  have kF5:Kp (fun k => k = g ∨ F1 k) w2 w5:=(k3.nw k35).trans hK5 fun k hk hf => by
   rcases nF3 k hf with e | e | e
   ·exact .inl e
   ·omega
   ·exact .inr e
  have nF5:∀ k,F5 k → k = g ∨ w2.heap.size ≤ k ∨ F1 k:=fun k hk => (hG5 k hk).elim (nF3 k) fun e => by have:=k35.size; exact .inr (.inl (by omega))
  have n5:Nw w w5:=n2.at_ kF5 fun k hk => by
   rcases hk with hk | hk
   ·omega
   ·have:=nF1 k hk; omega
  have hM5:=hM.nw n5
  obtain ⟨hU5,_⟩:=hM5.us _ _ hlk
  have p1:=hU5.blk.cell 1
  have hlenb:=len_mp (ty:=3) (w:=w5) KL hmb hU5.mp (keys_nodup hUO.2.srt) (Mb_some (vb nm) u.bx)
  rw [keysA_len] at hlenb
  have q1:(rowsB [nm,u.pass]).length ≤ 42:=by
   have a1:=rowB_lenq (l:=nm) (by omega)
   have a2:=rowB_lenq (l:=u.pass) (by omega)
   simp only [rowsB,List.flatMap_cons,List.flatMap_nil,List.length_append,List.length_nil]
   omega
  simp -dsimp [go_sem,p1,hlenb]
  have kf:Nw w5 (w5.alloc (.cells #[i64 u.bx.length] 3)):=(Kp.refl _ _).alloc _
  refine call (wNums_spec g _ [(u.bx.length:Int)] F5 (some ⟨w5.heap.size,0,none⟩) 1 _ (hW5.kp_ kf fun _ _ h => h) (Rd.fresh rfl rfl) (fun a ha _ hf => by cases ha; have:=hW5.lt_ _ hf; simp at this) (by rw [List.length_append,List.length_append]; simp; omega)) ?_
  rintro v w6 ⟨rfl,F6,hW6,hG6,hK6⟩
  have s25:=kF5.size
  have kF6:Kp (fun k => k = g ∨ F1 k) w2 w6:=(kF5.nw kf).trans hK6 fun k hk hf => by
   rcases nF5 k hf with e | e | e
   ·exact .inl e
   ·omega
   ·exact .inr e
  have nF6:∀ k,F6 k → k = g ∨ w2.heap.size ≤ k ∨ F1 k:=fun k hk => (hG6 k hk).elim (nF5 k) fun e => by have:=kf.size; exact .inr (.inl (by omega))
  have n6:Nw w w6:=n2.at_ kF6 fun k hk => by
   rcases hk with hk | hk
   ·omega
   ·have:=nF1 k hk; omega
  have q2:=numsB_len [(u.bx.length:Int)]
  simp only [List.length_cons,List.length_nil] at q2
  obtain ⟨pr2,hpr2⟩:∃ pr2,pr2 = pre ++ cur ++ rowsB [nm,u.pass] ++ numsB [(u.bx.length:Int)]:=⟨_,rfl⟩
  have hpr2l:pr2.length ≤ 477700:=by
   rw [hpr2,List.length_append,List.length_append,List.length_append]; omega
  rw [← hpr2] at hW6
  have hM6:=hM.nw n6
  obtain ⟨hU6,_⟩:=hM6.us _ _ hlk
  have p16:=hU6.blk.cell 1
  simp -dsimp [go_sem,p16]
  refine call (keysB_spec (rb nm) (Mb (vb nm) u.bx) (keysA u.bx) w6 hU6.mp (keysA_lt hUO.2.srt) (Mb_some (vb nm) u.bx) (by rw [keysA_len]; omega)) ?_
  rintro v w7 ⟨k7,Z,cz,rfl,hrZ,hcz,hZl⟩
  rw [keysA_len] at hcz ⊢
  obtain ⟨M,hM'⟩:∃ M,M = u.bx.length:=⟨_,rfl⟩
  rw [← hM'] at hub hcz ⊢
  have n7:=n6.nw k7
  have kF7:=kF6.nw k7
  have s67:=k7.size
  have s26:=kF6.size
  simp -dsimp [go_sem]
  refine loop [8,9,10,60,61,62,63,64,65,66,67,68,69,70,71,72,73,74,75,76,77] (by kernel_rfl)
   (fun f w' => Box1 (fun a w' => ∃ (j:Nat) (F:Nat → Prop),a = i64 j ∧ j ≤ M ∧ Wr w' g (pr2 ++ (u.bx.take j).flatMap fun y => rowB (encX y.2)) F ∧ (∀ k,F k → k = g ∨ w7.heap.size ≤ k ∨ F6 k) ∧ Kp (fun k => k = g ∨ F6 k) w7 w') (f 60) w') (fun f _ => M - (intOf (f 60)).toNat)
   ⟨0,F6,rfl,Nat.zero_le _,by simpa using hW6.kp_ k7 fun _ _ h => h,fun k hk => .inr (.inr hk),Kp.refl _ _⟩ ?_
  rintro f' w8 ⟨j,F8,f60,hj,hW8,nF8,k8⟩
  by_cases hltj:j < M
  ·have hltB:j < u.bx.length:=by omega
   have hj1:IntKind.i64.wrap ((j:Int) + 1) = ((j + 1:Nat):Int):=by rw [w64 (by omega) (by omega)]; omega
   obtain ⟨j1,hj1'⟩:∃ j1,j1 = j + 1:=⟨_,rfl⟩
   have htkj:(u.bx.take j1).flatMap (fun y => rowB (encX y.2)) = (u.bx.take j).flatMap (fun y => rowB (encX y.2)) ++ rowB (encX u.bx[j].2):=by rw [hj1',List.take_succ_eq_append_getElem hltB,List.flatMap_append]; simp
   rw [← hj1'] at hj1
   have n8:Nw w w8:=n7.at_ k8 fun k hk => by
    rcases hk with hk | hk
    ·omega
    ·rcases nF6 k hk with e | e | e
     ·omega
     ·omega
     ·have:=nF1 k e; omega
   have hrZ8:Rd w8 Z ((keysA u.bx).map fun s => str s):=hrZ.kp k8 fun a ha _ hk => by
    have:=hZl a ha
    rcases hk with hk | hk
    ·omega
    ·have:=hW6.lt_ _ hk; omega
   obtain ⟨gZ,oZ,rfl,cZ⟩:=hrZ8 j (str u.bx[j].1) (by simp [keysA,hltB])
   have hlkb:=look_at hUO.2.srt hltB
   have hBO:=hUO.2.bx _ _ hlkb
   have htlj:=encU_len hUO.2 j
   generalize (u.bx.take j).flatMap (fun y => rowB (encX y.2)) = curj at *
   generalize u.bx[j] = Y at *
   obtain ⟨bn,b⟩:=Y
   simp only at cZ hlkb hBO htkj
   have hM8:=hM.nw n8
   obtain ⟨hU8,_⟩:=hM8.us _ _ hlk
   have p18:=hU8.blk.cell 1
   have hlzb:=lookup_mp KL hmb zeroBox hU8.mp bn false
   rw [show Mb (vb nm) u.bx bn = some (vb nm bn) by simp [Mb,hlkb]] at hlzb
   have hlzb:(Instr.lookup 156 (.map (some (rb nm))) (str bn) false).run Tryz.prog w8 = .ok (vb nm bn) w8:=hlzb
   have hRB:=hU8.bx _ _ hlkb
   have hex:=encX_len2 hBO.2
   have hI:=IsB.of hBO.2
   have hbs:b.name.size ≤ 9223372036854775807:=by
    have:=isB_name hBO.2
    unfold nameOk at this
    simp only [Bool.and_eq_true,decide_eq_true_eq] at this
    have:=this.2; omega
   simp -dsimp [go_sem,f60,hltj,cZ,p18,hlzb]
   refine call (bencode_spec (vb nm bn) b w8 hRB.any hbs (by have:=hI.len; omega)) ?_
   rintro v w9 ⟨hE,k9⟩
   rcases hE with ⟨_,e,rfl,hB9⟩ | ⟨hno,_⟩
   ·obtain ⟨X,xc,rfl,hoX,hX⟩:=id hB9
    obtain ⟨ex,hex'⟩:∃ ex,ex = encX b:=⟨_,rfl⟩
    rw [← hex'] at hoX htkj hex ⊢
    simp -dsimp [go_sem]
    have kh:Nw w9 (w9.alloc (.cells #[.slice X ex.length xc] 23)):=(Kp.refl _ _).alloc _
    have hF8l:=hW8.lt_
    have s89:=k9.size
    refine call (wBytes_spec g _ [ex] F8 (some ⟨w9.heap.size,0,none⟩) 1 _ (hW8.kp_ (k9.nw kh) fun _ _ h => h) (brs_one (Blk.new w9 _ _) (fun e => by have:=hF8l _ e; omega) (hoX.rd.nw kh) (fun a ha _ hf => by have:=hX a ha; have:=hF8l _ hf; omega) hoX.2.1) (by rw [List.length_append]; simp [load]; omega)) ?_
    rintro v w10 ⟨rfl,F10,hW10,hG10,hK10⟩
    have s78:=k8.size
    have kF10:Kp (fun k => k = g ∨ F6 k) w7 w10:=((k8.nw k9).nw kh).trans hK10 fun k hk hf => by
     rcases nF8 k hf with e | e | e
     ·exact .inl e
     ·omega
     ·exact .inr e
    have he:pr2 ++ curj ++ rowsB [ex] = pr2 ++ (u.bx.take j1).flatMap fun y => rowB (encX y.2):=by
     rw [htkj,List.append_assoc]
     simp [rowsB]
    rw [he] at hW10
    simp -dsimp [go_sem,f60,hj1]
    exact ⟨⟨j1,F10,rfl,by omega,hW10,fun k hk => (hG10 k hk).elim (nF8 k) fun e => by have:=kh.size; exact .inr (.inl (by omega)),kF10⟩,by simp [intOf]; omega⟩
   ·rw [hBO.2] at hno; cases hno
  ·obtain rfl:j = M:=by omega
   rw [hM',List.take_length] at hW8
   have he:pr2 ++ u.bx.flatMap (fun y => rowB (encX y.2)) = pre ++ (T.us.take i1).flatMap imgU:=by
    rw [htk,hpr2]
    unfold imgU
    simp only [List.append_assoc]
   rw [he] at hW8
   have kF8:Kp (fun k => k = g ∨ F1 k) w2 w8:=kF7.trans k8 fun k hk hf => by
    rcases hf with e | e
    ·exact .inl e
    ·rcases nF6 k e with e | e | e
     ·exact .inl e
     ·omega
     ·exact .inr e
   have n8:Nw w w8:=n2.at_ kF8 fun k hk => by
    rcases hk with hk | hk
    ·omega
    ·have:=nF1 k hk; omega
   have s27:=kF7.size
   simp -dsimp [go_sem,f60,hltj,f28,hi1]
   exact ⟨⟨i1,F8,rfl,by omega,hW8,fun k hk => by
    rcases nF8 k hk with e | e | e
    ·exact .inl e
    ·exact .inr (.inl (by omega))
    ·exact nF6 k e,n8,kF8⟩,by simp [intOf]; omega⟩
 ·obtain rfl:i = N:=by omega
  rw [hN,List.take_length] at hW3
  have he:pre ++ T.us.flatMap imgU = imgS T:=by
   rw [hpre,List.nil_append]; rfl
  rw [he] at hW3
  have hil:=imgS_len ok
  simp -dsimp [go_sem,f28,hlt]
  refine call (wOut_spec g (imgS T) F3 w3 hW3 (by omega)) ?_
  rintro v w4 ⟨hB4,k4⟩
  simp -dsimp [go_sem]
  exact ⟨hB4.mono (by have:=n3.size; omega),n3.nw k4⟩
set_option maxHeartbeats 1000000
section
variable {w w' w1 w2:World} {s g l t:Nat} {S S' S1 S2:Sto} {F F' G G' FS FS' V V' Z:Nat → Prop}
theorem LS.step {p:Nm} {D:Dsk} {L:Led} (h:LS w l g p D L F G V) (k:Kp Z w w') (hZ:∀ i,Z i → V i ∧ ¬ F i ∧ ¬ G i) (hG:Gr V V' w w') (hV:∀ i,V i → V' i):LS w' l g p D L F G V' :=
 ⟨h.dk.kp k fun i hf hz => (hZ i hz).2.1 hf,h.lg.step k (fun i hi => ⟨(hZ i hi).1,(hZ i hi).2.2⟩) hG hV,fun i hi => hV i (h.fv i hi),h.dj⟩
theorem SttA.fv {T:Stt} (h:SttA w t T F V):∀ k,F k → V k:=by
 obtain ⟨r,ptr,rb,vb,Fs,h⟩:=h
 exact h.fv
theorem StM.step (h:StM w s g l t S F G FS V) (k:Kp Z w w') (hZ:∀ i,Z i → V i ∧ ¬ F i ∧ ¬ G i ∧ ¬ FS i ∧ i ≠ s) (hG:Gr V V' w w') (hV:∀ i,V i → V' i):StM w' s g l t S F G FS V' :=
 ⟨h.blk.kp k fun e => (hZ _ e).2.2.2.2 rfl,h.ls.step k (fun i hi => ⟨(hZ i hi).1,(hZ i hi).2.1,(hZ i hi).2.2.1⟩) hG hV,h.lok,h.st.step k (fun i hi => ⟨(hZ i hi).1,(hZ i hi).2.2.2.1⟩) hG hV,h.apF,hV _ h.sv,h.sap⟩
theorem StM.lt (h:StM w s g l t S F G FS V):∀ k,V k → k < w.heap.size:=h.ls.lg.lt
theorem StM.fsv (h:StM w s g l t S F G FS V):∀ k,FS k → V k:=h.st.fv
theorem StM.fv (h:StM w s g l t S F G FS V):∀ k,F k → V k:=h.ls.fv
theorem StM.gv (h:StM w s g l t S F G FS V):∀ k,G k → V k:=h.ls.lg.gv
/-- What a step of a store may turn. -/
structure Cs (w w1:World) (s:Nat) (F F1 G G1 FS FS1 V V1:Nat → Prop):Prop where
 gF:Gr F F1 w w1
 gG:Gr G G1 w w1
 gS:Gr FS FS1 w w1
 gV:Gr V V1 w w1
 vv:∀ k,V k → V1 k
 kp:Kp (fun k => F k ∨ G k ∨ FS k ∨ k = s) w w1
def DoR (w w':World) (s g l t:Nat) (S:Sto) (F G FS V:Nat → Prop):Prop:=∃ F' G' FS' V',StM w' s g l t S F' G' FS' V' ∧ Cs w w' s F F' G G' FS FS' V V'
theorem Cs.nw (k:Nw w w1):Cs w w1 s F F G G FS FS V V:=⟨fun _ h => .inl h,fun _ h => .inl h,fun _ h => .inl h,fun _ h => .inl h,fun _ h => h,Nw.kp k _⟩
theorem Cs.trans {F1 F2 G1 G2 FS1 FS2 V1 V2:Nat → Prop} (hs:s < w.heap.size) (a:Cs w w1 s F F1 G G1 FS FS1 V V1) (b:Cs w1 w2 s F1 F2 G1 G2 FS1 FS2 V1 V2):Cs w w2 s F F2 G G2 FS FS2 V V2 :=
 ⟨Gr.trans a.gF b.gF a.kp.size b.kp.size,Gr.trans a.gG b.gG a.kp.size b.kp.size,Gr.trans a.gS b.gS a.kp.size b.kp.size,Gr.trans a.gV b.gV a.kp.size b.kp.size,fun k h => b.vv k (a.vv k h),
  a.kp.trans b.kp fun k hk h => by
   rcases h with h | h | h | h
   ·exact (a.gF k h).elim .inl fun e => by omega
   ·exact (a.gG k h).elim (fun e => .inr (.inl e)) fun e => by omega
   ·exact (a.gS k h).elim (fun e => .inr (.inr (.inl e))) fun e => by omega
   ·exact .inr (.inr (.inr h))⟩
theorem DoR.trans (hs:s < w.heap.size) {F1 G1 FS1 V1:Nat → Prop} (a:Cs w w1 s F F1 G G1 FS FS1 V V1) (b:DoR w1 w2 s g l t S F1 G1 FS1 V1):DoR w w2 s g l t S F G FS V:=by
 obtain ⟨F2,G2,FS2,V2,h,c⟩:=b
 exact ⟨F2,G2,FS2,V2,h,a.trans hs c⟩
theorem StM.sl (h:StM w s g l t S F G FS V):s < w.heap.size:=h.blk.lt
/-- The ledger and its disk have turned. -/
theorem StM.led {D':Dsk} {L':Led} (h:StM w s g l t S F G FS V) (c:ChR w w' l g mailN D' L' F G V) (ok:L'.Ok):DoR w w' s g l t ⟨D',L',S.T,S.dead⟩ F G FS V:=by
 obtain ⟨F',G',V',hL,ch⟩:=c
 have hFl:∀ k,FS k → k < w.heap.size:=fun k hk => h.lt k (h.fsv k hk)
 have hsl:=h.sl
 refine ⟨F',G',FS,V',⟨h.blk.kp ch.kp fun e => e.elim h.sap.1 h.sap.2.1,hL,ok,h.st.step ch.kp (fun i hi => ⟨hi.elim (h.fv i) (h.gv i),fun e => hi.elim (h.apF i e).1 (h.apF i e).2⟩) ch.gV ch.vv,fun i hi => ⟨fun e => ?_,fun e => ?_⟩,ch.vv _ h.sv,fun e => ?_,fun e => ?_,h.sap.2.2⟩,
  ch.gF,ch.gG,fun _ h => .inl h,ch.gV,ch.vv,ch.kp.mono fun k _ hk => hk.imp id .inl⟩
 ·exact (ch.gF i e).elim (h.apF i hi).1 fun e => by have:=hFl i hi; omega
 ·exact (ch.gG i e).elim (h.apF i hi).2 fun e => by have:=hFl i hi; omega
 ·exact (ch.gF s e).elim h.sap.1 fun e => by omega
 ·exact (ch.gG s e).elim h.sap.2.1 fun e => by omega
/-- The state has turned. -/
theorem StM.done {T':Stt} (h:StM w s g l t S F G FS V) (c:DoneR w w' t T' FS V):DoR w w' s g l t ⟨S.D,S.L,T',S.dead⟩ F G FS V:=by
 obtain ⟨FS',V',hT,gS,gV,vv,kp⟩:=c
 have hsl:=h.sl
 have hVl:=h.lt
 refine ⟨F,G,FS',V',⟨h.blk.kp kp h.sap.2.2,h.ls.step kp (fun i hi => ⟨h.fsv i hi,(h.apF i hi).1,(h.apF i hi).2⟩) gV vv,h.lok,hT,fun i hi => ⟨fun e => ?_,fun e => ?_⟩,vv _ h.sv,h.sap.1,h.sap.2.1,fun e => ?_⟩,
  fun _ h => .inl h,fun _ h => .inl h,gS,gV,vv,kp.mono fun k _ hk => .inr (.inr (.inl hk))⟩
 ·exact (gS i hi).elim (fun e' => (h.apF i e').1 e) fun e' => by have:=hVl i (h.fv i e); omega
 ·exact (gS i hi).elim (fun e' => (h.apF i e').2 e) fun e' => by have:=hVl i (h.gv i e); omega
 ·exact (gS s e).elim h.sap.2.2 fun e' => by omega
/-- It is dead. -/
theorem StM.dies (h:StM w s g l t S F G FS V) (b:Bool):DoR w (w.setCell ⟨s,2,none⟩ (.bool b)) s g l t ⟨S.D,S.L,S.T,b⟩ F G FS V:=by
 have k:Kp (At s) w (w.setCell ⟨s,2,none⟩ (.bool b)):=(Kp.refl _ _).setCell_at _ _
 have hZ:∀ i,At s i → V i ∧ ¬ F i ∧ ¬ G i ∧ ¬ FS i:=fun i (e:i = s) => by subst e; exact ⟨h.sv,h.sap⟩
 exact ⟨F,G,FS,V,⟨by simpa using h.blk.set 2 (.bool b),h.ls.step k (fun i hi => ⟨(hZ i hi).1,(hZ i hi).2.1,(hZ i hi).2.2.1⟩) (fun _ h => .inl h) fun _ h => h,h.lok,h.st.step k (fun i hi => ⟨(hZ i hi).1,(hZ i hi).2.2.2⟩) (fun _ h => .inl h) fun _ h => h,h.apF,h.sv,h.sap⟩,
  fun _ h => .inl h,fun _ h => .inl h,fun _ h => .inl h,fun _ h => .inl h,fun _ h => h,k.mono fun i _ hi => .inr (.inr (.inr hi))⟩
end
/-- A store in a law: all of it new since w0; the law's own blocks U may turn, what is in E stays. -/
def Sm (w0 w:World) (s g l t:Nat) (S:Sto) (U E:Nat → Prop):Prop:=∃ F G FS V,StM w s g l t S F G FS V ∧ (∀ k,V k → w0.heap.size ≤ k) ∧ Nw w0 w ∧ (∀ k,U k → V k ∧ ¬ F k ∧ ¬ G k ∧ ¬ FS k ∧ k ≠ s) ∧ ∀ k,E k → ¬ V k ∧ k < w.heap.size
/-- What a step of it may turn. -/
abbrev Fu (w0:World) (U E:Nat → Prop):Nat → Prop:=fun k => w0.heap.size ≤ k ∧ ¬ U k ∧ ¬ E k
section
variable {w0 w w1:World} {s g l t:Nat} {S S':Sto} {U U' E E':Nat → Prop}
theorem Sm.on (h:Sm w0 w s g l t S U E):Nw w0 w:=by
 obtain ⟨F,G,FS,V,h1,h2,h3,h4,h5⟩:=h
 exact h3
theorem Sm.nw (h:Sm w0 w s g l t S U E) (k:Nw w w1):Sm w0 w1 s g l t S U E:=by
 obtain ⟨F,G,FS,V,h1,h2,h3,h4,h5⟩:=h
 exact ⟨F,G,FS,V,h1.nw k,h2,h3.nw k,h4,fun i hi => ⟨(h5 i hi).1,Nat.lt_of_lt_of_le (h5 i hi).2 k.size⟩⟩
theorem Sm.of {F G FS V:Nat → Prop} (h1:StM w s g l t S F G FS V) (h2:∀ k,V k → w0.heap.size ≤ k) (h3:Nw w0 w) (h4:∀ k,U k → V k ∧ ¬ F k ∧ ¬ G k ∧ ¬ FS k ∧ k ≠ s) (h5:∀ k,E k → ¬ V k ∧ k < w.heap.size) (c:DoR w w1 s g l t S' F G FS V) :
  Sm w0 w1 s g l t S' U E ∧ Kp (Fu w0 U E) w w1:=by
 obtain ⟨F',G',FS',V',hS,ch⟩:=c
 have hVl:=h1.lt
 have hsv:∀ k,(F k ∨ G k ∨ FS k ∨ k = s) → V k:=fun k hk => by
  rcases hk with hk | hk | hk | hk
  ·exact h1.fv k hk
  ·exact h1.gv k hk
  ·exact h1.fsv k hk
  ·exact hk ▸ h1.sv
 refine ⟨⟨F',G',FS',V',hS,fun k hk => (ch.gV k hk).elim (h2 k) fun e => Nat.le_trans h3.size e.1,h3.at_ ch.kp fun k hk => h2 k (hsv k hk),fun k hk => ?_,fun k hk => ⟨fun e => (ch.gV k e).elim (h5 k hk).1 fun e => by have:=(h5 k hk).2; omega,Nat.lt_of_lt_of_le (h5 k hk).2 ch.kp.size⟩⟩,ch.kp.mono fun k _ hk => ⟨h2 k (hsv k hk),fun hu => ?_,fun he => (h5 k he).1 (hsv k hk)⟩⟩
 ·obtain ⟨a1,a2,a3,a4,a5⟩:=h4 k hk
  have:=hVl k a1
  exact ⟨ch.vv k a1,fun e => (ch.gF k e).elim a2 fun e => by omega,fun e => (ch.gG k e).elim a3 fun e => by omega,fun e => (ch.gS k e).elim a4 fun e => by omega,a5⟩
 ·obtain ⟨a1,a2,a3,a4,a5⟩:=h4 k hu
  rcases hk with hk | hk | hk | hk
  ·exact a2 hk
  ·exact a3 hk
  ·exact a4 hk
  ·exact a5 hk
/-- The law's own blocks have turned. -/
theorem Sm.own (h:Sm w0 w s g l t S U E) (k:Kp U w w1):Sm w0 w1 s g l t S U E:=by
 obtain ⟨F,G,FS,V,h1,h2,h3,h4,h5⟩:=h
 exact ⟨F,G,FS,V,h1.step k h4 (fun _ h => .inl h) fun _ h => h,h2,h3.at_ k fun k hk => h2 k (h4 k hk).1,h4,fun i hi => ⟨(h5 i hi).1,Nat.lt_of_lt_of_le (h5 i hi).2 k.size⟩⟩
/-- New blocks: the law's own, or such that stay. -/
theorem Sm.more (h:Sm w0 w s g l t S U E) (k:Nw w w1) (hU:∀ i,U' i → U i ∨ w.heap.size ≤ i ∧ i < w1.heap.size) (hE:∀ i,E' i → E i ∨ w.heap.size ≤ i ∧ i < w1.heap.size) (hd:∀ i,U' i → ¬ E' i):Sm w0 w1 s g l t S U' E':=by
 obtain ⟨F,G,FS,V,h1,h2,h3,h4,h5⟩:=h
 have hVl:=h1.lt
 have hsl:=h1.sl
 refine ⟨F,G,FS,fun i => V i ∨ U' i,h1.step k (fun _ h => h.elim) (fun i hi => hi.elim .inl fun e => (hU i e).imp (fun e => (h4 i e).1) id) fun i hi => .inl hi,fun i hi => hi.elim (h2 i) fun e => (hU i e).elim (fun e => h2 i (h4 i e).1) fun e => by have:=h3.size; omega,h3.nw k,fun i hi => ⟨.inr hi,?_⟩,fun i hi => ⟨fun e => ?_,?_⟩⟩
 ·rcases hU i hi with e | e
  ·exact (h4 i e).2
  ·exact ⟨fun e' => by have:=hVl i (h1.fv i e'); omega,fun e' => by have:=hVl i (h1.gv i e'); omega,fun e' => by have:=hVl i (h1.fsv i e'); omega,by omega⟩
 ·rcases e with e | e
  ·rcases hE i hi with e' | e'
   ·exact (h5 i e').1 e
   ·have:=hVl i e; omega
  ·exact hd i e hi
 ·rcases hE i hi with e' | e'
  ·exact Nat.lt_of_lt_of_le (h5 i e').2 k.size
  ·exact e'.2
end
set_option maxHeartbeats 2000000
/-- The image written, if there are too many entries: the disk, the ledger, an error. -/
def wrD (S:Sto):Dsk × Led × Nat:=if S.L.last < S.L.base + 20 then (S.D,S.L,0) else lWrite S.D mailN S.L (S.L.last:Int) (imgS S.T)
theorem StM.c0 {w:World} {s g l t:Nat} {S:Sto} {F G FS V:Nat → Prop} (h:StM w s g l t S F G FS V):w.cell? ⟨s,0,none⟩ = some (.pointer (some ⟨l,0,none⟩)):=h.blk.cell 0
theorem StM.c1 {w:World} {s g l t:Nat} {S:Sto} {F G FS V:Nat → Prop} (h:StM w s g l t S F G FS V):w.cell? ⟨s,1,none⟩ = some (.pointer (some ⟨t,0,none⟩)):=h.blk.cell 1
theorem StM.c2 {w:World} {s g l t:Nat} {S:Sto} {F G FS V:Nat → Prop} (h:StM w s g l t S F G FS V):w.cell? ⟨s,2,none⟩ = some (.bool S.dead):=h.blk.cell 2
theorem StM.mail:mailN.length ≤ 20:=by decide
theorem writes_spec {s g l t:Nat} {S:Sto} {F G FS V:Nat → Prop} (w:World) (h:StM w s g l t S F G FS V) (hT:S.T.Ok) :
  Cal Tryz.prog 58 #[.pointer (some ⟨s,0,none⟩)] w fun v w' => v = i64 (wrD S).2.2 ∧ DoR w w' s g l t ⟨(wrD S).1,(wrD S).2.1,S.T,S.dead⟩ F G FS V:=by
 have s0:=h.c0
 have hlk:=h.lok.last
 have hll:S.L.last = S.L.base + S.L.ents.length:=rfl
 refine enter Tryz.mixed Tryz.func58 rfl (by kernel_rfl) ?_
 simp -dsimp [go_sem,s0]
 refine call (base_spec l g mailN S.L G V w h.ls.lg h.lok) ?_
 rintro v w1 ⟨k1,u,rfl,hB⟩
 have h1:=h.nw k1
 have s01:=h1.c0
 simp -dsimp [go_sem,s01]
 refine call (last_spec l g mailN S.L G V w1 h1.ls.lg h1.lok) ?_
 rintro v w2 ⟨rfl,k2⟩
 have h2:=h1.nw k2
 have hsub:IntKind.i64.wrap ((S.L.last:Int) - (S.L.base:Int)) = (S.L.last:Int) - (S.L.base:Int):=w64 (by omega) (by omega)
 by_cases h20:S.L.last < S.L.base + 20
 ·have h20':(S.L.last:Int) - (S.L.base:Int) < 20:=by omega
  have e:wrD S = (S.D,S.L,0):=by unfold wrD; rw [if_pos h20]
  rw [e]
  simp -dsimp [go_sem,hsub,h20']
  exact ⟨F,G,FS,V,h2,Cs.nw (k1.nw k2)⟩
 ·have h20':¬ (S.L.last:Int) - (S.L.base:Int) < 20:=by omega
  have e:wrD S = lWrite S.D mailN S.L (S.L.last:Int) (imgS S.T):=by unfold wrD; rw [if_neg h20]
  rw [e]
  simp -dsimp [go_sem,hsub,h20']
  have s02:=h2.c0
  have s12:=h2.c1
  have hsF:¬ (F s ∨ G s):=fun e => e.elim h.sap.1 h.sap.2.1
  have kd:Nw w2 w2.drew:=(Kp.refl _ _).drew
  refine draw (.take 0 (.take 1 (.take 2 (.take 3 (.take 4 (.take 5 (.take 6 (.take 7 (.take 9 (.take 10 (.take 11 (.take 12 (.alt 8 (.alt 13 (.alt 14 (.take 15 .done) .stop) .stop) .stop))))))))))))) (by kernel_rfl) (fun wz => Kp (fun k => F k ∨ G k) w2 wz) (Nw.kp kd _) ?_
  simp -dsimp [go_sem,s02,s12]
  refine ⟨fun wz hz => by simp [hz.cell_some s02 hsF],fun wz hz => by simp [hz.cell_some s12 hsF],?_⟩
  have hd:=h2.nw kd
  refine call (last_spec l g mailN S.L G V w2.drew hd.ls.lg hd.lok) ?_
  rintro v w3 ⟨rfl,k3⟩
  have n3:=kd.nw k3
  have h3:=h2.nw n3
  refine ⟨Nw.kp n3 _,?_⟩
  simp -dsimp [go_sem]
  refine call (simage_spec t S.T FS V w3 h3.st hT) ?_
  rintro v w4 ⟨hB4,k4⟩
  have n4:=n3.nw k4
  have h4:=h2.nw n4
  refine ⟨Nw.kp n4 _,?_⟩
  obtain ⟨X,x,rfl,hoX,hX⟩:=id hB4
  have hil:=imgS_len hT
  obtain ⟨b,hb⟩:∃ b,b = imgS S.T:=⟨_,rfl⟩
  rw [← hb] at hoX hil ⊢
  simp -dsimp [go_sem]
  have hVl:=h3.lt
  refine call (lwrite_spec l g mailN S.D S.L F G V (S.L.last:Int) b X x w4 h4.ls StM.mail h4.lok hoX.rd (fun a ha _ hv => by have:=hX a ha; have:=hVl _ hv; omega) hoX.2.1 (by omega)) ?_
  rintro v w5 ⟨rfl,c5⟩
  have hch:=c5
  obtain ⟨F',G',V',hL5,ch⟩:=hch
  refine ⟨(Nw.kp n4 _).trans ch.kp fun _ _ h => h,?_⟩
  simp -dsimp [go_sem]
  exact DoR.trans h.sl (Cs.nw ((k1.nw k2).nw n4)) (h4.led c5 (lWrite_ok h4.lok S.D mailN _ b))
end Go.Proofs.YtellahclbhfdiaaGreatDoor
