/-
  A store's step in plain words; on an unlit disk it never fails. By the session itself. A change as bytes: Encode walked. By the session itself. The reference's text and Encode, walked. By the session itself. Bytes read as a box, by ours and by the reference: the same. By the session itself. Bytes read as a change, by ours and by the reference: the same; cut short: none. By the session itself.
-/
import Derived.Test.YtellahclbhfdiaaGreatDoorZ13
import Derived.Test.YtellahclbhfdiaaGreatDoorZ26
import Derived.Test.YtellahclbhfdiaaGreatDoorZ25
import Derived.Test.YtellahclbhfdiaaGreatDoorZ11
import Derived.Test.YtellahclbhfdiaaGreatDoorZ23
import Derived.Test.YtellahclbhfdiaaGreatDoorZ10
import Derived.Test.YtellahclbhfdiaaGreatDoorZ12
namespace Go.Proofs.YtellahclbhfdiaaGreatDoor
set_option linter.unusedSimpArgs false
set_option linter.unusedVariables false
set_option maxRecDepth 100000
set_option maxHeartbeats 1000000
open Go.Vc Go.RowKit
theorem encC_len {c:Chg} (h:c.Ok):(encC c).length ≤ 2000:=by
 have h1:=numsB_len [c.kind]
 have h2:=rowB_lenq (l:=c.user) (by have:=h.user; omega)
 have h3:=rowB_lenq (l:=c.pass) (by have:=h.pass; omega)
 have h4:=rowB_lenq (l:=c.box) (by have:=h.box; omega)
 have h5:=rowB_lenq (l:=c.to) (by have:=h.to; omega)
 have h6:=numsB_len [(c.uids.length:Int)]
 have h7:=numsB_len c.uids
 have h8:=numsB_len [c.mode,c.flags,c.date]
 have h9:=rowB_lenq (l:=c.body) (by have:=h.body; omega)
 have k1:=h.user; have k2:=h.pass; have k3:=h.box; have k4:=h.to; have k5:=h.uids.2; have k6:=h.body
 simp only [List.length_cons,List.length_nil] at h1 h6 h8
 have e:(encC c).length = (numsB [c.kind]).length + ((rowB c.user).length + ((rowB c.pass).length + ((rowB c.box).length + (rowB c.to).length))) + (numsB [(c.uids.length:Int)]).length + (numsB c.uids).length + (numsB [c.mode,c.flags,c.date]).length + (rowB c.body).length:=by
  unfold encC
  simp [rowsB]
  omega
 omega
theorem encX_len2 {b:Bx} (h:isB b = true):(encX b).length ≤ 29800:=by
 have hI:=IsB.of h
 have hnm:b.name.size ≤ 12:=by
  have:=isB_name h
  unfold nameOk at this
  simp only [Bool.and_eq_true,decide_eq_true_eq] at this
  exact this.2
 have hnl:b.name.data.toList.length ≤ 12:=by rw [Array.length_toList]; exact hnm
 have h1:=rowB_lenq (l:=b.name.data.toList) (by omega)
 have h2:=numsB_len [b.val,b.next,(b.L.length:Int)]
 have h3:=encMs_len b.L fun m hm => (hI.all m hm).2.2.2.2
 have h4:=hI.len
 simp only [List.length_cons,List.length_nil] at h2
 unfold encX
 rw [List.length_append,List.length_append]
 omega
theorem flat_len {α:Type} (f:α → List UInt8) (N:Nat):∀ l:List α,(∀ x ∈ l,(f x).length ≤ N) → (l.flatMap f).length ≤ l.length * N
 | [],_ => by simp
 | x :: l,h => by
  have h1:=h x (List.mem_cons_self ..)
  have h2:=flat_len f N l fun y hy => h y (List.mem_cons_of_mem _ hy)
  rw [List.flatMap_cons,List.length_append,List.length_cons,Nat.add_mul]
  omega
theorem imgU_len {s:Nm} {u:Usr} (hs:nmOk s = true) (h:u.Ok):(imgU (s,u)).length ≤ 119400:=by
 have k1:=(nmOk_len hs).2
 have k2:=(passOk_len h.pass).2
 have h1:=rowB_lenq (l:=s) (by omega)
 have h2:=rowB_lenq (l:=u.pass) (by omega)
 have h3:=numsB_len [(u.bx.length:Int)]
 have h4:=flat_len (fun y:Nm × Bx => rowB (encX y.2)) 29809 u.bx fun y hy => by
  have hb:=(h.bx y.1 y.2 ((tLook_mem h.srt).2 hy)).2
  have:=encX_len2 hb
  have:=rowB_lenq (l:=encX y.2) (by omega)
  omega
 have h5:=h.len
 have h6:=Nat.mul_le_mul_right 29809 h5
 simp only [List.length_cons,List.length_nil] at h3
 have e:(imgU (s,u)).length = (rowB s).length + (rowB u.pass).length + (numsB [(u.bx.length:Int)]).length + (u.bx.flatMap fun y => rowB (encX y.2)).length:=by
  unfold imgU
  simp [rowsB]
  omega
 omega
theorem imgS_len {T:Stt} (h:T.Ok):(imgS T).length ≤ 500000:=by
 have h1:=numsB_len [T.next,(T.us.length:Int)]
 have h2:=flat_len imgU 119400 T.us fun x hx => by
  have:=h.us x.1 x.2 ((tLook_mem h.srt).2 hx)
  exact imgU_len this.1 this.2
 have h3:=Nat.mul_le_mul_right 119400 h.len
 simp only [List.length_cons,List.length_nil] at h1
 unfold imgS
 rw [List.length_append]
 omega
/-- A store: its disk, its ledger, its state. -/
structure Sto where
 D:Dsk
 L:Led
 T:Stt
 dead:Bool
def doX (S:Sto) (n:Int) (r:Dsk × Led × Nat):Sto × Int × Int:=if r.2.2 ≠ 0 then (⟨r.1,r.2.1,S.T,true⟩,0,(r.2.2:Int)) else (⟨r.1,r.2.1,S.T,false⟩,n,0)
def doW (S:Sto) (n:Int):Sto × Int × Int:=if S.L.last < S.L.base + 20 then (S,n,0) else doX S n (lWrite S.D mailN S.L (S.L.last:Int) (imgS S.T))
def doB (S:Sto) (T:Stt) (n:Int) (r:Dsk × Led × Nat × Nat):Sto × Int × Int:=if r.2.2.2 ≠ 0 then (⟨r.1,r.2.1,S.T,true⟩,0,(r.2.2.2:Int)) else doW ⟨r.1,r.2.1,T,false⟩ n
/-- Do. -/
def doA (S:Sto) (c:Chg):Sto × Int × Int :=
 if S.dead = true then (S,0,9) else if chgOk c = false then (S,0,1) else if (plan S.T c).1 ≠ 0 then (S,0,(plan S.T c).1) else doB S (plan S.T c).2.2 (plan S.T c).2.1 (lApp S.D mailN S.L (encC c))
/-- A store on an unlit disk with room. -/
structure Sf (S:Sto) (u m k:Nat):Prop where
 free:Free S.D u m
 room:S.D.room = 268435456
 dead:S.dead = false
 ldead:S.L.dead = false
 tok:S.T.Ok
 sh:tLook S.D.fs (shadow (imgN mailN)) = none
 few:S.L.ents.length < 20
 last:S.L.last ≤ k
theorem Sf.mono {S:Sto} {u m k u' m' k':Nat} (h:Sf S u m k) (hu:u ≤ u') (hm:m ≤ m') (hk:k ≤ k'):Sf S u' m' k' :=
 ⟨⟨h.free.ok,h.free.left,Nat.le_trans h.free.used hu,Nat.le_trans h.free.many hm⟩,h.room,h.dead,h.ldead,h.tok,h.sh,h.few,Nat.le_trans h.last hk⟩
/-- A step of it: refused, and nothing has turned; or done. -/
theorem Sf.step {S:Sto} {u m k:Nat} (h:Sf S u m k) (c:Chg) (hu:u + 600000 ≤ 268435456) (hm:m + 2 < 4096) (hk:k < 1000000) :
  (chgOk c = false ∧ doA S c = (S,0,1)) ∨ (chgOk c = true ∧ (plan S.T c).1 ≠ 0 ∧ doA S c = (S,0,(plan S.T c).1)) ∨
  (chgOk c = true ∧ (plan S.T c).1 = 0 ∧ ∃ S',doA S c = (S',(plan S.T c).2.1,0) ∧ S'.T = (plan S.T c).2.2 ∧ Sf S' (u + 600000) (m + 2) (k + 1)):=by
 have h0:¬ S.dead = true:=by rw [h.dead]; simp
 unfold doA
 rw [if_neg h0]
 cases hc:chgOk c with
 | false => exact .inl ⟨rfl,by simp⟩
 | true =>
  rw [if_neg (by simp)]
  by_cases hp:(plan S.T c).1 = 0
  ·refine .inr (.inr ⟨rfl,hp,?_⟩)
   rw [if_neg (by simpa using hp)]
   have hl:=encC_len (chgOk_ok hc)
   have hpo:=plan_ok h.tok hc
   have hlast:=h.last
   have hlb:S.L.last = S.L.base + S.L.ents.length:=rfl
   have hfew:=h.few
   obtain ⟨D1,e1,f1,r1,x1,o1⟩:=lApp_out (p:=mailN) (b:=encC c) h.free (by decide) h.ldead (by omega) (by omega) (by rw [h.room]; omega) (by omega)
   rw [e1]
   generalize plan S.T c = P at *
   obtain ⟨pe,pn,pT⟩:=P
   simp only at hp hpo ⊢
   unfold doB
   simp only
   rw [if_neg (by simp)]
   have sh1:tLook D1.fs (shadow (imgN mailN)) = none:=by rw [o1 _ (fun e => log_sh mailN e.symm)]; exact h.sh
   have f1':=f1.many
   have f1u:=f1.used
   unfold doW
   simp only
   obtain ⟨L1,hL1⟩:∃ L1:Led,L1 = { S.L with ents:=S.L.ents ++ [encC c] }:=⟨_,rfl⟩
   have l1b:L1.base = S.L.base:=by rw [hL1]
   have l1e:L1.ents.length = S.L.ents.length + 1:=by rw [hL1]; simp
   have l1l:L1.last = S.L.last + 1:=by unfold Led.last at *; omega
   have l1d:L1.dead = false:=by rw [hL1]; exact h.ldead
   rw [← hL1]
   by_cases h20:L1.last < S.L.base + 20
   ·rw [if_pos h20]
    refine ⟨_,rfl,rfl,⟨f1.ok,f1.left,Nat.le_trans f1u (by omega),Nat.le_trans f1' (by omega)⟩,by simp only; rw [r1,h.room],rfl,l1d,hpo,sh1,?_,?_⟩
    ·simp only; unfold Led.last at *; omega
    ·simp only; omega
   ·rw [if_neg h20]
    have hil:=imgS_len hpo
    obtain ⟨D2,e2,f2,r2,x2,y2,o2⟩:=lWrite_out (p:=mailN) (L:=L1) (n:=L1.last) (b:=imgS pT) f1 (by decide) l1d (Nat.le_refl _) (by omega) (by omega) sh1 (by rw [r1,h.room]; omega) (by omega)
    rw [e2]
    unfold doX
    simp only
    rw [if_neg (by simp)]
    refine ⟨_,rfl,rfl,⟨f2.ok,f2.left,Nat.le_trans f2.used (by omega),Nat.le_trans f2.many (by omega)⟩,by simp only; rw [r2,r1,h.room],rfl,rfl,hpo,?_,by simp,?_⟩
    ·rw [o2 _ (fun e => log_sh mailN e.symm) (fun e => img_sh mailN e.symm)]; exact sh1
    ·show L1.last + 0 ≤ k + 1
     omega
  ·refine .inr (.inl ⟨rfl,hp,?_⟩)
   rw [if_pos hp]
/-- An empty store. -/
def Dsk.fresh:Dsk:=⟨268435456,[],none⟩
def Sto.fresh:Sto:=⟨Dsk.fresh,Led.zero,Stt.zero,false⟩
theorem fresh_open:opn Dsk.fresh mailN = (Dsk.fresh,0,Led.zero):=opn_none rfl rfl rfl
theorem Dsk.fresh_ok:Dsk.fresh.Ok:=⟨Srt.nil,by decide,by decide,by decide,fun s f h => (by cases h),fun n h => (by cases h),fun s x h => (by cases h)⟩
theorem Sf.fresh:Sf Sto.fresh 0 0 0:=⟨⟨Dsk.fresh_ok,rfl,Nat.le_refl _,Nat.le_refl _⟩,rfl,rfl,rfl,Stt.Ok.zero,rfl,by decide,Nat.le_refl _⟩
def knownU:Chg:=⟨1,[97],[112],[],[],[],0,0,0,[]⟩
def knownA:Chg:=⟨5,[97],[],inboxN,[],[],0,0,0,[]⟩
theorem known_one:chgOk knownU = true ∧ (plan Stt.zero knownU).1 = 0 ∧ (plan Stt.zero knownU).2.1 = 0 ∧ (plan Stt.zero knownU).2.2 = ⟨2,[([97],⟨[112],[(inboxN,newB inboxN 1)]⟩)]⟩:=by
 refine ⟨by decide +kernel,by rfl,by rfl,by rfl⟩
theorem known_two:chgOk knownA = true ∧ (plan ⟨2,[([97],⟨[112],[(inboxN,newB inboxN 1)]⟩)]⟩ knownA).1 = 0 ∧ (plan ⟨2,[([97],⟨[112],[(inboxN,newB inboxN 1)]⟩)]⟩ knownA).2.1 = 1 ∧
  (plan ⟨2,[([97],⟨[112],[(inboxN,newB inboxN 1)]⟩)]⟩ knownA).2.2.us = [([97],⟨[112],[(inboxN,⟨⟨inboxN.toArray⟩,1,2,[⟨1,0,0,[]⟩]⟩)]⟩)]:=by
 refine ⟨by decide +kernel,by rfl,by rfl,by rfl⟩
set_option maxHeartbeats 2000000
/-- What a change's parts may measure. -/
structure CSz (c:Chg):Prop where
 user:c.user.length ≤ 140737488355328
 pass:c.pass.length ≤ 140737488355328
 box:c.box.length ≤ 140737488355328
 to:c.to.length ≤ 140737488355328
 uids:c.uids.length ≤ 140737488355328
 body:c.body.length ≤ 140737488355328
 ui:∀ n ∈ c.uids,-9223372036854775808 ≤ n ∧ n ≤ 9223372036854775807
theorem Chg.Ok.sz {c:Chg} (h:c.Ok):CSz c:=⟨by have:=h.user; omega,by have:=h.pass; omega,by have:=h.box; omega,by have:=h.to; omega,by have:=h.uids.2; omega,by have:=h.body; omega,fun n hn => by have:=h.uids.1 n hn; omega⟩
theorem isChangeZ (v:Value) (c:Chg) (w:World) (h:RC w v c (fun _ => False)) (hs:CSz c):Cal Tryz.prog 30 #[v] w fun v' w' => v' = .bool (chgOk c) ∧ Nw w w' :=
 isChange_spec v c w h (by have:=hs.user; simp [ByteArray.size]; omega) (by have:=hs.pass; omega) (by have:=hs.box; simp [ByteArray.size]; omega) (by have:=hs.to; simp [ByteArray.size]; omega) (by have:=hs.uids; omega) hs.ui
/-- What Encode hands back. -/
def EncCR (v:Value) (w:World) (c:Chg) (B:Nat):Prop:=(chgOk c = true ∧ ∃ u,v = .tuple #[u,i64 0] ∧ Bs w u (encC c) B) ∨ (chgOk c = false ∧ v = .tuple #[.slice none 0 0,i64 1])
theorem convN (l:Nm) (w:World):∃ c w',convR Tryz.prog 9 23 (str l) w = .ok (.slice (some ⟨w.heap.size,0,none⟩) l.length c) w' ∧ l.length ≤ c ∧ Nw w w' ∧ Rd w' (some ⟨w.heap.size,0,none⟩) (l.map u8) ∧ w.heap.size < w'.heap.size:=by
 obtain ⟨c,w',h1,h2,h3,h4,h5⟩:=conv_bytes2 (P:=Tryz.prog) (src:=9) (dst:=23) (e:=5) (by kernel_rfl) (by kernel_rfl) (by kernel_rfl) ⟨l.toArray⟩ w
 exact ⟨c,w',h1,h2,h3,h4,h5⟩
theorem rowsB_len4 (c:Chg) (h1:c.user.length ≤ 12) (h2:c.pass.length ≤ 12) (h3:c.box.length ≤ 12) (h4:c.to.length ≤ 12):(rowsB [c.user,c.pass,c.box,c.to]).length ≤ 100:=by
 have a1:=rowB_lenq (l:=c.user) (by omega)
 have a2:=rowB_lenq (l:=c.pass) (by omega)
 have a3:=rowB_lenq (l:=c.box) (by omega)
 have a4:=rowB_lenq (l:=c.to) (by omega)
 simp only [rowsB,List.flatMap_cons,List.flatMap_nil,List.length_append,List.length_nil]
 omega
theorem sencode_spec (v:Value) (c:Chg) (w:World) (h:RC w v c (fun _ => False)) (hs:CSz c):Cal Tryz.prog 9 #[v] w fun v' w' => EncCR v' w' c w.heap.size ∧ Nw w w':=by
 have hRC:=h
 obtain ⟨A,ca,B,cb,rfl,hca,hcb,hrA,_,hrB,_⟩:=h
 refine enter Tryz.mixed Tryz.func9 rfl (by kernel_rfl) ?_
 simp -dsimp [go_sem]
 have k0:Nw w (w.alloc (.cells (chV c A ca B cb) 25)):=(Kp.refl _ _).alloc _
 have hy:=Blk.new w 25 (chV c A ca B cb)
 obtain ⟨y,hy'⟩:∃ y,y = w.heap.size:=⟨_,rfl⟩
 rw [← hy'] at hy ⊢
 obtain ⟨ul,hul⟩:∃ ul,ul = c.uids.length:=⟨_,rfl⟩
 obtain ⟨bl,hbl⟩:∃ bl,bl = c.body.length:=⟨_,rfl⟩
 generalize w.alloc (.cells (chV c A ca B cb) 25) = wa at *
 refine call (isChangeZ _ c wa (hRC.nw k0) hs) ?_
 rintro v w1 ⟨rfl,k1⟩
 cases hok:chgOk c with
 | false =>
  simp -dsimp [go_sem]
  exact ⟨.inr ⟨hok,rfl⟩,k0.nw k1⟩
 | true =>
  have hX:=chgOk_ok hok
  have u1:=hX.user; have u2:=hX.pass; have u3:=hX.box; have u4:=hX.to; have u5:=hX.uids.2; have u6:=hX.body
  have n1:=k0.nw k1
  have hy1:=hy.nw k1
  have hyl:=hy1.lt
  have kb:Nw w1 (w1.alloc (.cells #[.slice none 0 0] 70)):=(Kp.refl _ _).alloc _
  have hg0:=Blk.new w1 70 #[.slice none 0 0]
  obtain ⟨g,hg⟩:∃ g,g = w1.heap.size:=⟨_,rfl⟩
  have hyb:=hy1.nw kb
  have n2:=n1.nw kb
  simp -dsimp [go_sem]
  rw [← hg] at hg0 ⊢
  have hgl:=hg0.lt
  have hW0:Wr (w1.alloc (.cells #[.slice none 0 0] 70)) g [] (At g) :=
   ⟨none,0,hg0,Ow.nil _ _ _,(fun a ha => by cases ha),(fun k hk => hk.elim id fun h => h.elim),fun k (e:k = g) => by omega⟩
  generalize w1.alloc (.cells #[.slice none 0 0] 70) = wb at *
  have y0:=(hyb).cell 0
  have y1:=(hyb).cell 1
  have y2:=(hyb).cell 2
  have y3:=(hyb).cell 3
  have y4:=(hyb).cell 4
  have y5:=(hyb).cell 5
  have y6:=(hyb).cell 6
  have y7:=(hyb).cell 7
  have y8:=(hyb).cell 8
  have y9:=(hyb).cell 9
  replace y5:=(y5).trans (show _ = some (Value.slice A ul ca) by rw [hul]; rfl)
  replace y9:=(y9).trans (show _ = some (Value.slice B bl cb) by rw [hbl]; rfl)
  simp -dsimp [go_sem,y0]
  have kd:Nw wb (wb.alloc (.cells #[i64 c.kind] 3)):=(Kp.refl _ _).alloc _
  refine call (wNums_spec g [] [c.kind] (At g) (some ⟨wb.heap.size,0,none⟩) 1 _ (hW0.kp_ kd fun _ _ h => h) (Rd.fresh rfl rfl) (fun a ha _ (e:a.block = g) => by cases ha; simp at e; omega) (by simp)) ?_
  rintro v w3 ⟨rfl,F3,hW3,hG3,hK3⟩
  have hy3:=(hyb.nw kd).kp hK3 fun (e:y = g) => by omega
  have sg3:g ≤ w3.heap.size:=Nat.le_trans (Nat.le_of_lt hgl) (Nat.le_trans kd.size hK3.size)
  have nF3:∀ k,F3 k → g ≤ k:=fun k hk => (hG3 k hk).elim (fun (e:k = g) => by omega) fun e => by have:=kd.size; omega
  have n3:Nw w w3:=(n2.nw kd).at_ hK3 fun k (e:k = g) => by have:=k0.size; have:=k1.size; omega
  have hwg:w.heap.size ≤ g:=by have:=k0.size; have:=k1.size; omega
  clear y0 y1 y2 y3 y4 y5 y6 y7 y8 y9
  have y0:=(hy3).cell 0
  have y1:=(hy3).cell 1
  have y2:=(hy3).cell 2
  have y3:=(hy3).cell 3
  have y4:=(hy3).cell 4
  have y5:=(hy3).cell 5
  have y6:=(hy3).cell 6
  have y7:=(hy3).cell 7
  have y8:=(hy3).cell 8
  have y9:=(hy3).cell 9
  replace y5:=(y5).trans (show _ = some (Value.slice A ul ca) by rw [hul]; rfl)
  replace y9:=(y9).trans (show _ = some (Value.slice B bl cb) by rw [hbl]; rfl)
  obtain ⟨d1,v1,hc1,hl1,kc1,hr1,ht1⟩:=convN c.user w3
  have hy4:=hy3.nw kc1
  clear y0 y1 y2 y3 y4 y5 y6 y7 y8 y9
  have y1:=hy3.cell 1
  have y2:=hy4.cell 2
  simp -dsimp [go_sem,y1,hc1,y2]
  obtain ⟨d2,v2,hc2,hl2,kc2,hr2,ht2⟩:=convN c.pass v1
  have hy5:=hy4.nw kc2
  have y3:=hy5.cell 3
  simp -dsimp [go_sem,hc2,y3]
  obtain ⟨d3,v3,hc3,hl3,kc3,hr3,ht3⟩:=convN c.box v2
  have hy6:=hy5.nw kc3
  have y4:=hy6.cell 4
  simp -dsimp [go_sem,hc3,y4]
  obtain ⟨d4,v4,hc4,hl4,kc4,hr4,ht4⟩:=convN c.to v3
  have hy7:=hy6.nw kc4
  simp -dsimp [go_sem,hc4]
  have k34:Nw w3 v4:=((kc1.nw kc2).nw kc3).nw kc4
  have hW4:=hW3.kp_ k34 fun _ _ h => h
  have s1:=kc1.size
  have s2:=kc2.size
  have s3:=kc3.size
  have s4:=kc4.size
  have ke:Nw v4 (v4.alloc (.cells #[.slice (some ⟨w3.heap.size,0,none⟩) c.user.length d1,.slice (some ⟨v1.heap.size,0,none⟩) c.pass.length d2,.slice (some ⟨v2.heap.size,0,none⟩) c.box.length d3,.slice (some ⟨v3.heap.size,0,none⟩) c.to.length d4] 23)):=(Kp.refl _ _).alloc _
  have hW5:=hW4.kp_ ke fun _ _ h => h
  have hF3l:=hW3.lt_
  have hof:∀ (q:Nat) (xs:List Value),w3.heap.size ≤ q → Ofl (some ⟨q,0,none⟩) xs F3:=fun q xs hq a ha _ hf => by
   cases ha
   have:=hF3l _ hf
   simp at this; omega
  have hRV:RV (v4.alloc (.cells #[.slice (some ⟨w3.heap.size,0,none⟩) c.user.length d1,.slice (some ⟨v1.heap.size,0,none⟩) c.pass.length d2,.slice (some ⟨v2.heap.size,0,none⟩) c.box.length d3,.slice (some ⟨v3.heap.size,0,none⟩) c.to.length d4] 23)) [.slice (some ⟨w3.heap.size,0,none⟩) c.user.length d1,.slice (some ⟨v1.heap.size,0,none⟩) c.pass.length d2,.slice (some ⟨v2.heap.size,0,none⟩) c.box.length d3,.slice (some ⟨v3.heap.size,0,none⟩) c.to.length d4] [c.user,c.pass,c.box,c.to] F3 :=
   (((RV.one ((((hr1.nw kc2).nw kc3).nw kc4).nw ke) (hof _ _ (Nat.le_refl _)) hl1).append (RV.one (((hr2.nw kc3).nw kc4).nw ke) (hof _ _ (by omega)) hl2)).append (RV.one ((hr3.nw kc4).nw ke) (hof _ _ (by omega)) hl3)).append (RV.one (hr4.nw ke) (hof _ _ (by omega)) hl4)
  have hbr:=hRV.brs (Rd.of_heap (Blk.new v4 23 #[.slice (some ⟨w3.heap.size,0,none⟩) c.user.length d1,.slice (some ⟨v1.heap.size,0,none⟩) c.pass.length d2,.slice (some ⟨v2.heap.size,0,none⟩) c.box.length d3,.slice (some ⟨v3.heap.size,0,none⟩) c.to.length d4])) (hof _ _ (by omega))
  have q1:=numsB_len [c.kind]
  simp only [List.length_cons,List.length_nil] at q1
  refine call (wBytes_spec g _ [c.user,c.pass,c.box,c.to] F3 _ 4 _ hW5 hbr (by rw [List.nil_append]; simp [load]; omega)) ?_
  rintro v w6 ⟨rfl,F6,hW6,hG6,hK6⟩
  have n5:=(n3.nw k34).nw ke
  have hy8:=(hy7.nw ke).kp hK6 fun e => by have:=nF3 y e; omega
  have s5:=ke.size
  have sg5:=Nat.le_trans sg3 (Nat.le_trans k34.size ke.size)
  have sg6:g ≤ w6.heap.size:=Nat.le_trans sg5 hK6.size
  have nF6:∀ k,F6 k → g ≤ k:=fun k hk => (hG6 k hk).elim (nF3 k) fun e => Nat.le_trans sg5 e.1
  have n6:Nw w w6:=n5.at_ hK6 fun k hk => by have:=nF3 k hk; omega
  have q2:=rowsB_len4 c u1 u2 u3 u4
  have y0:=(hy8).cell 0
  have y1:=(hy8).cell 1
  have y2:=(hy8).cell 2
  have y3:=(hy8).cell 3
  have y4:=(hy8).cell 4
  have y5:=(hy8).cell 5
  have y6:=(hy8).cell 6
  have y7:=(hy8).cell 7
  have y8:=(hy8).cell 8
  have y9:=(hy8).cell 9
  replace y5:=(y5).trans (show _ = some (Value.slice A ul ca) by rw [hul]; rfl)
  replace y9:=(y9).trans (show _ = some (Value.slice B bl cb) by rw [hbl]; rfl)
  clear y1 y2 y3 y4
  obtain ⟨l6,hl6⟩:∃ l6,l6 = [] ++ numsB [c.kind] ++ rowsB [c.user,c.pass,c.box,c.to]:=⟨_,rfl⟩
  have hl6l:l6.length ≤ 200:=by rw [hl6,List.nil_append,List.length_append]; omega
  rw [← hl6] at hW6
  simp -dsimp [go_sem,y5]
  have kf:Nw w6 (w6.alloc (.cells #[i64 ul] 3)):=(Kp.refl _ _).alloc _
  refine call (wNums_spec g l6 [(ul:Int)] F6 (some ⟨w6.heap.size,0,none⟩) 1 _ (hW6.kp_ kf fun _ _ h => h) (Rd.fresh rfl rfl) (fun a ha _ hf => by cases ha; have:=hW6.lt_ _ hf; simp at this) (by simp; omega)) ?_
  rintro v w7 ⟨rfl,F7,hW7,hG7,hK7⟩
  have hy9:=(hy8.nw kf).kp hK7 fun e => by have:=nF6 y e; omega
  have nF7:∀ k,F7 k → g ≤ k:=fun k hk => (hG7 k hk).elim (nF6 k) fun e => Nat.le_trans (Nat.le_trans sg6 kf.size) e.1
  have n7:Nw w w7:=(n6.nw kf).at_ hK7 fun k hk => by have:=nF6 k hk; omega
  clear y0 y1 y2 y3 y4 y5 y6 y7 y8 y9
  have y0:=(hy9).cell 0
  have y1:=(hy9).cell 1
  have y2:=(hy9).cell 2
  have y3:=(hy9).cell 3
  have y4:=(hy9).cell 4
  have y5:=(hy9).cell 5
  have y6:=(hy9).cell 6
  have y7:=(hy9).cell 7
  have y8:=(hy9).cell 8
  have y9:=(hy9).cell 9
  replace y5:=(y5).trans (show _ = some (Value.slice A ul ca) by rw [hul]; rfl)
  replace y9:=(y9).trans (show _ = some (Value.slice B bl cb) by rw [hbl]; rfl)
  have q3:=numsB_len [(ul:Int)]
  simp only [List.length_cons,List.length_nil] at q3
  simp -dsimp [go_sem,y5]
  rw [hul]
  refine call (wNums_spec g _ c.uids F7 A ca w7 hW7 (hrA.nw n7) (hrA.ofl fun k hk => by have:=nF7 k hk; omega) (by rw [List.length_append]; omega)) ?_
  rintro v w8 ⟨rfl,F8,hW8,hG8,hK8⟩
  have hya:=hy9.kp hK8 fun e => by have:=nF7 y e; omega
  have sg7:g ≤ w7.heap.size:=Nat.le_trans (Nat.le_trans sg6 kf.size) hK7.size
  have nF8:∀ k,F8 k → g ≤ k:=fun k hk => (hG8 k hk).elim (nF7 k) fun e => by omega
  have n8:Nw w w8:=n7.at_ hK8 fun k hk => by have:=nF7 k hk; omega
  clear y0 y1 y2 y3 y4 y5 y6 y7 y8 y9
  have y0:=(hya).cell 0
  have y1:=(hya).cell 1
  have y2:=(hya).cell 2
  have y3:=(hya).cell 3
  have y4:=(hya).cell 4
  have y5:=(hya).cell 5
  have y6:=(hya).cell 6
  have y7:=(hya).cell 7
  have y8:=(hya).cell 8
  have y9:=(hya).cell 9
  replace y5:=(y5).trans (show _ = some (Value.slice A ul ca) by rw [hul]; rfl)
  replace y9:=(y9).trans (show _ = some (Value.slice B bl cb) by rw [hbl]; rfl)
  have q4:=numsB_len c.uids
  simp -dsimp [go_sem,y6,y7,y8]
  have kh:Nw w8 (w8.alloc (.cells #[i64 c.mode,i64 c.flags,i64 c.date] 3)):=(Kp.refl _ _).alloc _
  refine call (wNums_spec g _ [c.mode,c.flags,c.date] F8 (some ⟨w8.heap.size,0,none⟩) 3 _ (hW8.kp_ kh fun _ _ h => h) (Rd.fresh rfl rfl) (fun a ha _ hf => by cases ha; have:=hW8.lt_ _ hf; simp at this) (by rw [List.length_append,List.length_append]; simp; omega)) ?_
  rintro v w9 ⟨rfl,F9,hW9,hG9,hK9⟩
  have hyc:=(hya.nw kh).kp hK9 fun e => by have:=nF8 y e; omega
  have sg8:g ≤ w8.heap.size:=Nat.le_trans sg7 hK8.size
  have nF9:∀ k,F9 k → g ≤ k:=fun k hk => (hG9 k hk).elim (nF8 k) fun e => by have:=kh.size; omega
  have n9:Nw w w9:=(n8.nw kh).at_ hK9 fun k hk => by have:=nF8 k hk; omega
  clear y0 y1 y2 y3 y4 y5 y6 y7 y8 y9
  have y0:=(hyc).cell 0
  have y1:=(hyc).cell 1
  have y2:=(hyc).cell 2
  have y3:=(hyc).cell 3
  have y4:=(hyc).cell 4
  have y5:=(hyc).cell 5
  have y6:=(hyc).cell 6
  have y7:=(hyc).cell 7
  have y8:=(hyc).cell 8
  have y9:=(hyc).cell 9
  replace y5:=(y5).trans (show _ = some (Value.slice A ul ca) by rw [hul]; rfl)
  replace y9:=(y9).trans (show _ = some (Value.slice B bl cb) by rw [hbl]; rfl)
  have q5:=numsB_len [c.mode,c.flags,c.date]
  simp only [List.length_cons,List.length_nil] at q5
  simp -dsimp [go_sem,y9]
  have kj:Nw w9 (w9.alloc (.cells #[.slice B bl cb] 23)):=(Kp.refl _ _).alloc _
  rw [hbl] at kj ⊢
  refine call (wBytes_spec g _ [c.body] F9 (some ⟨w9.heap.size,0,none⟩) 1 _ (hW9.kp_ kj fun _ _ h => h) (brs_one (Blk.new w9 _ _) (fun e => by have:=hW9.lt_ _ e; omega) ((hrB.nw n9).nw kj) (hrB.ofl fun k hk => by have:=nF9 k hk; omega) hcb) (by rw [List.length_append,List.length_append,List.length_append]; simp [load]; omega)) ?_
  rintro v w10 ⟨rfl,F10,hW10,hG10,hK10⟩
  have n10:Nw w w10:=(n9.nw kj).at_ hK10 fun k hk => by have:=nF9 k hk; omega
  have he:l6 ++ numsB [(ul:Int)] ++ numsB c.uids ++ numsB [c.mode,c.flags,c.date] ++ rowsB [c.body] = encC c:=by
   rw [hl6,hul,List.nil_append]
   rfl
  rw [he] at hW10
  have hel:=encC_len hX
  simp -dsimp [go_sem]
  refine call (wOut_spec g (encC c) F10 w10 hW10 (by omega)) ?_
  rintro v w11 ⟨hB11,k11⟩
  simp -dsimp [go_sem]
  exact ⟨.inl ⟨hok,_,rfl,hB11.mono (by have:=n10.size; omega)⟩,n10.nw k11⟩
set_option maxHeartbeats 1000000
theorem clamp_nat {n:Nat} (h:n ≤ 4611686018427387904):clampN (n:Int) = n:=by unfold clampN; omega
end Go.Proofs.YtellahclbhfdiaaGreatDoor
