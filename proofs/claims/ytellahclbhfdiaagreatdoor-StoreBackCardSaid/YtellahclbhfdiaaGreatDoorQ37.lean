/-
  A change read by the reference: the state of a Decode, and the walk. By the session itself.
-/
import Derived.Test.YtellahclbhfdiaaGreatDoorQ26
import Derived.Test.YtellahclbhfdiaaGreatDoorQ27
import Derived.Test.YtellahclbhfdiaaGreatDoorQ36
namespace Go.Proofs.YtellahclbhfdiaaGreatDoor
set_option linter.unusedSimpArgs false
set_option linter.unusedVariables false
set_option maxRecDepth 100000
set_option maxHeartbeats 2000000
open Go.Vc Go.RowKit
/-- A change of nothing. -/
def zeroC:Array Value:=#[i64 0,.string ⟨#[]⟩,.string ⟨#[]⟩,.string ⟨#[]⟩,.string ⟨#[]⟩,.slice none 0 0,i64 0,i64 0,i64 0,.slice none 0 0]
/-- A reading under way: the change at x, the result's cell r0, the reader h. -/
structure Dx (w0 w:World) (x r0 h:Nat) (cs:Array Value) (l:List UInt8) (bad:Bool) (F:Nat → Prop):Prop where
 bx:Blk w x 25 cs
 br:Blk w r0 25 zeroC
 rd:RefR w h l bad F
 on:Nw w0 w
 fx:∀ k,F k → k < x ∧ k ≠ r0
 hx:h < x
 hr:r0 < h
 new:w0.heap.size ≤ r0
section
variable {w0 w w':World} {x r0 h:Nat} {cs:Array Value} {l:List UInt8} {bad:Bool} {F:Nat → Prop}
theorem Dx.at_h (d:Dx w0 w x r0 h cs l bad F) {l':List UInt8} {bad':Bool} (hr:RefR w' h l' bad' F) (k:Kp (At h) w w'):Dx w0 w' x r0 h cs l' bad' F :=
 ⟨d.bx.kp k fun (e:x = h) => by have:=d.hx; omega,d.br.kp k fun (e:r0 = h) => by have:=d.hr; omega,hr,d.on.at_ k fun i (e:i = h) => by have:=d.hr; have:=d.new; omega,d.fx,d.hx,d.hr,d.new⟩
theorem Dx.nw (d:Dx w0 w x r0 h cs l bad F) (k:Nw w w'):Dx w0 w' x r0 h cs l bad F:=⟨d.bx.nw k,d.br.nw k,d.rd.nw k,d.on.nw k,d.fx,d.hx,d.hr,d.new⟩
theorem Dx.fr (d:Dx w0 w x r0 h cs l bad F) {B:Nat} (k:Kp (Fr B) w w') (hB:x < B):Dx w0 w' x r0 h cs l bad F :=
 ⟨d.bx.kp k fun (e:B ≤ x) => by omega,d.br.kp k fun (e:B ≤ r0) => by have:=d.hr; have:=d.hx; omega,d.rd.kp_ k fun i hi (e:B ≤ i) => by have:=d.fx i hi; omega,d.on.at_ k fun i (e:B ≤ i) => by have:=d.hr; have:=d.hx; have:=d.new; omega,d.fx,d.hx,d.hr,d.new⟩
theorem Dx.set (d:Dx w0 w x r0 h cs l bad F) (i:Nat) (v:Value):Dx w0 (w.setCell ⟨x,i,none⟩ v) x r0 h (cs.setIfInBounds i v) l bad F:=by
 have k:Kp (At x) w (w.setCell ⟨x,i,none⟩ v):=(Kp.refl _ _).setCell_at _ _
 exact ⟨d.bx.set i v,d.br.kp k fun (e:r0 = x) => by have:=d.hr; have:=d.hx; omega,d.rd.kp_ k fun i hi (e:i = x) => by have:=d.fx i hi; omega,d.on.at_ k fun i (e:i = x) => by have:=d.hr; have:=d.hx; have:=d.new; omega,d.fx,d.hx,d.hr,d.new⟩
theorem Dx.num (d:Dx w0 w x r0 h cs l bad F) (hl:l.length ≤ 140737488355328):Cal Tryz.prog 44 #[.pointer (some ⟨h,0,none⟩)] w fun v w' => v = i64 (numL l bad).1 ∧ Dx w0 w' x r0 h cs (numL l bad).2.1 (numL l bad).2.2 F ∧ Kp (At h) w w' :=
 (refNumT_spec h l bad F w d.rd hl).mono fun v w' ⟨e,hr,k⟩ => ⟨e,d.at_h hr k,k⟩
theorem Dx.bytes (d:Dx w0 w x r0 h cs l bad F) (hl:l.length ≤ 140737488355328):Cal Tryz.prog 45 #[.pointer (some ⟨h,0,none⟩)] w fun v w' => Bs w' v (bytL l bad).1 w.heap.size ∧ Dx w0 w' x r0 h cs (bytL l bad).2.1 (bytL l bad).2.2 F ∧ Kp (At h) w w' :=
 (refBytesT_spec h l bad F w d.rd hl).mono fun v w' ⟨e,hr,k⟩ => ⟨e,d.at_h hr k,k⟩
end
/-- What a Decode hands back. -/
def ChR2 (v:Value) (w:World) (ok:Bool) (c:Chg):Prop:=(ok = true ∧ ∃ u,v = .tuple #[u,i64 0] ∧ RC w u c (fun _ => False)) ∨ (ok = false ∧ v = .tuple #[.agg zeroC,i64 3])
theorem rcDecode_spec (p:List UInt8) (A:Option Addr) (c:Nat) (w:World) (hr:Rd w A (p.map u8)) (hc:p.length ≤ c) (hl:p.length ≤ 1000000) :
  Cal Tryz.prog 12 #[.slice A p.length c] w fun v w' => ChR2 v w' (rcOk p) (rcRead p).1 ∧ Nw w w':=by
 refine enter Tryz.mixed Tryz.func12 rfl (by kernel_rfl) ?_
 have k0:Nw w (w.alloc (.cells zeroC 25)):=(Kp.refl _ _).alloc _
 have hr0:Blk (w.alloc (.cells zeroC 25)) w.heap.size 25 zeroC:=Blk.new w 25 zeroC
 have sr:(w.alloc (.cells zeroC 25)).heap.size = w.heap.size + 1:=by simp
 obtain ⟨r0,hr0'⟩:∃ r0,r0 = w.heap.size:=⟨_,rfl⟩
 unfold zeroC at k0 sr
 rw [show (w.alloc (.cells zeroC 25)) = w.alloc (.cells #[i64 0,.string ⟨#[]⟩,.string ⟨#[]⟩,.string ⟨#[]⟩,.string ⟨#[]⟩,.slice none 0 0,i64 0,i64 0,i64 0,.slice none 0 0] 25) from rfl] at hr0
 simp -dsimp [go_sem]
 rw [← hr0'] at hr0 sr ⊢
 generalize w.alloc (.cells #[i64 0,.string ⟨#[]⟩,.string ⟨#[]⟩,.string ⟨#[]⟩,.string ⟨#[]⟩,.slice none 0 0,i64 0,i64 0,i64 0,.slice none 0 0] 25) = wa at *
 have kh:Nw wa (wa.alloc (.cells #[.slice A p.length c,.bool false] 85)):=(Kp.refl _ _).alloc _
 have hRd:=RefR.new (hr.nw k0) hc
 have shh:(wa.alloc (.cells #[.slice A p.length c,.bool false] 85)).heap.size = wa.heap.size + 1:=by simp
 rw [sr] at hRd shh
 obtain ⟨h,hh⟩:∃ h,h = r0 + 1:=⟨_,rfl⟩
 rw [← hh] at hRd shh ⊢
 have hr1:=hr0.nw kh
 have n1:=k0.nw kh
 generalize wa.alloc (.cells #[.slice A p.length c,.bool false] 85) = w1 at *
 obtain ⟨F,hFd⟩:∃ F:Nat → Prop,F = fun k => k = h ∨ (p ≠ [] ∧ blk A k):=⟨_,rfl⟩
 rw [← hFd] at hRd
 have hFlt:∀ k,F k → k < w1.heap.size:=hRd.lt_
 have hFr:∀ k,F k → k ≠ r0:=fun k hk e => by
  rw [hFd] at hk
  rcases hk with hk | ⟨hne,hk⟩
  ·omega
  ·obtain ⟨a,ha,rfl⟩:=blk_of hk
   exact (hr.ofl (S:=fun i => w.heap.size ≤ i) fun i hi => hi) a ha (by simpa using hne) (by omega)
 clear hFd
 refine call (refNumT_spec h p false F w1 hRd (by omega)) ?_
 rintro v w2 ⟨rfl,hRd2,hk2⟩
 have n2:Nw w w2:=n1.at_ hk2 fun k (e:k = h) => by omega
 have hr2:=hr1.kp hk2 fun (e:r0 = h) => by omega
 have la:=numL_len p false
 have la0:=numL_le p false
 obtain ⟨a,ha⟩:∃ a,numL p false = a:=⟨_,rfl⟩
 rw [ha] at la la0 hRd2 ⊢
 obtain ⟨ka,hka⟩:∃ ka:Nat,ka = a.1:=⟨_,rfl⟩
 rw [← hka] at la0 ⊢
 simp -dsimp [go_sem]
 simp [go_sem]
 have a1:Nw w2 (w2.alloc (.cells #[i64 ka,.string ⟨#[]⟩,.string ⟨#[]⟩,.string ⟨#[]⟩,.string ⟨#[]⟩,.slice none 0 0,i64 0,i64 0,i64 0,.slice none 0 0] 25)):=(Kp.refl _ _).alloc _
 have hx0:=Blk.new w2 25 #[i64 ka,.string ⟨#[]⟩,.string ⟨#[]⟩,.string ⟨#[]⟩,.string ⟨#[]⟩,.slice none 0 0,i64 0,i64 0,i64 0,.slice none 0 0]
 obtain ⟨x,hx⟩:∃ x,x = w2.heap.size:=⟨_,rfl⟩
 rw [← hx] at hx0 ⊢
 have hw12:w1.heap.size ≤ x:=by have:=hk2.size; omega
 have hhF:=hFlt h hRd.in_
 have d:Dx w _ x r0 h #[i64 ka,.string ⟨#[]⟩,.string ⟨#[]⟩,.string ⟨#[]⟩,.string ⟨#[]⟩,.slice none 0 0,i64 0,i64 0,i64 0,.slice none 0 0] a.2.1 a.2.2 F :=
  ⟨hx0,hr2.nw a1,hRd2.nw a1,n2.nw a1,fun k hk => ⟨by have:=hFlt k hk; omega,hFr k hk⟩,by omega,by omega,by omega⟩
 generalize w2.alloc (.cells #[i64 ka,.string ⟨#[]⟩,.string ⟨#[]⟩,.string ⟨#[]⟩,.string ⟨#[]⟩,.slice none 0 0,i64 0,i64 0,i64 0,.slice none 0 0] 25) = w3 at *
 clear hx0 hr2 hRd2 n2 n1 hr1 hRd hr0 k0 kh hk2 a1
 refine call (d.bytes (by omega)) ?_
 rintro v wb1 ⟨hBq,d,kq⟩
 have lb1:=bytL_size a.2.1 a.2.2
 obtain ⟨b1,hb1⟩:∃ b,bytL a.2.1 a.2.2 = b:=⟨_,rfl⟩
 rw [hb1] at lb1 d hBq
 obtain ⟨t1,ht1⟩:∃ t,t = b1.1:=⟨_,rfl⟩
 rw [← ht1] at hBq lb1
 obtain ⟨X,xc,rfl,hoX,hX⟩:=hBq
 have hcv:=nm_conv (c:=xc) hoX.rd
 have p1:=d.bx.cell 1
 have g1:=d.bx.frozen 1
 have d:Dx w (wb1.setCell ⟨x,1,none⟩ (str t1)) x r0 h #[i64 ka,str t1,.string ⟨#[]⟩,.string ⟨#[]⟩,.string ⟨#[]⟩,.slice none 0 0,i64 0,i64 0,i64 0,.slice none 0 0] b1.2.1 b1.2.2 F:=by simpa using d.set 1 (str t1)
 simp -dsimp [go_sem,hcv,p1,g1]
 generalize wb1.setCell ⟨x,1,none⟩ (str t1) = wc1 at *
 refine call (d.bytes (by omega)) ?_
 rintro v wb2 ⟨hBq,d,kq⟩
 have lb2:=bytL_size b1.2.1 b1.2.2
 obtain ⟨b2,hb2⟩:∃ b,bytL b1.2.1 b1.2.2 = b:=⟨_,rfl⟩
 rw [hb2] at lb2 d hBq
 obtain ⟨t2,ht2⟩:∃ t,t = b2.1:=⟨_,rfl⟩
 rw [← ht2] at hBq lb2
 obtain ⟨X,xc,rfl,hoX,hX⟩:=hBq
 have hcv:=nm_conv (c:=xc) hoX.rd
 have p2:=d.bx.cell 2
 have g2:=d.bx.frozen 2
 have d:Dx w (wb2.setCell ⟨x,2,none⟩ (str t2)) x r0 h #[i64 ka,str t1,str t2,.string ⟨#[]⟩,.string ⟨#[]⟩,.slice none 0 0,i64 0,i64 0,i64 0,.slice none 0 0] b2.2.1 b2.2.2 F:=by simpa using d.set 2 (str t2)
 simp -dsimp [go_sem,hcv,p2,g2]
 generalize wb2.setCell ⟨x,2,none⟩ (str t2) = wc2 at *
 refine call (d.bytes (by omega)) ?_
 rintro v wb3 ⟨hBq,d,kq⟩
 have lb3:=bytL_size b2.2.1 b2.2.2
 obtain ⟨b3,hb3⟩:∃ b,bytL b2.2.1 b2.2.2 = b:=⟨_,rfl⟩
 rw [hb3] at lb3 d hBq
 obtain ⟨t3,ht3⟩:∃ t,t = b3.1:=⟨_,rfl⟩
 rw [← ht3] at hBq lb3
 obtain ⟨X,xc,rfl,hoX,hX⟩:=hBq
 have hcv:=nm_conv (c:=xc) hoX.rd
 have p3:=d.bx.cell 3
 have g3:=d.bx.frozen 3
 have d:Dx w (wb3.setCell ⟨x,3,none⟩ (str t3)) x r0 h #[i64 ka,str t1,str t2,str t3,.string ⟨#[]⟩,.slice none 0 0,i64 0,i64 0,i64 0,.slice none 0 0] b3.2.1 b3.2.2 F:=by simpa using d.set 3 (str t3)
 simp -dsimp [go_sem,hcv,p3,g3]
 generalize wb3.setCell ⟨x,3,none⟩ (str t3) = wc3 at *
 refine call (d.bytes (by omega)) ?_
 rintro v wb4 ⟨hBq,d,kq⟩
 have lb4:=bytL_size b3.2.1 b3.2.2
 obtain ⟨b4,hb4⟩:∃ b,bytL b3.2.1 b3.2.2 = b:=⟨_,rfl⟩
 rw [hb4] at lb4 d hBq
 obtain ⟨t4,ht4⟩:∃ t,t = b4.1:=⟨_,rfl⟩
 rw [← ht4] at hBq lb4
 obtain ⟨X,xc,rfl,hoX,hX⟩:=hBq
 have hcv:=nm_conv (c:=xc) hoX.rd
 have p4:=d.bx.cell 4
 have g4:=d.bx.frozen 4
 have d:Dx w (wb4.setCell ⟨x,4,none⟩ (str t4)) x r0 h #[i64 ka,str t1,str t2,str t3,str t4,.slice none 0 0,i64 0,i64 0,i64 0,.slice none 0 0] b4.2.1 b4.2.2 F:=by simpa using d.set 4 (str t4)
 simp -dsimp [go_sem,hcv,p4,g4]
 generalize wb4.setCell ⟨x,4,none⟩ (str t4) = wc4 at *
 refine call (d.num (by omega)) ?_
 rintro v w4 ⟨rfl,d,k4⟩
 have lq:=numL_len b4.2.1 b4.2.2
 obtain ⟨q,hq⟩:∃ q,numL b4.2.1 b4.2.2 = q:=⟨_,rfl⟩
 rw [hq] at lq d ⊢
 obtain ⟨n,hn⟩:∃ n:Nat,n = q.1:=⟨_,rfl⟩
 rw [← hn]
 obtain ⟨N,hN⟩:∃ N,N = min n 25:=⟨_,rfl⟩
 obtain ⟨B0,hB0⟩:∃ B0,B0 = x + 1:=⟨_,rfl⟩
 have hB08:B0 ≤ w4.heap.size:=by have:=d.bx.lt; omega
 generalize hl2:q.2.1 = l2 at *
 generalize hbad2:q.2.2 = bad2 at *
 simp -dsimp [go_sem]
 refine loop [7,34,35,36,37,38,39,40,41,42,43,44,45,46,47,48,49,50,51,52,53,54,55,56] (by kernel_rfl)
  (fun f w' => Box1 (fun a w' => ∃ (i k:Nat) (L:List Int) (l:List UInt8) (bad:Bool) (vU:Value),a = i64 i ∧ i + k = N ∧ Dx w w' x r0 h #[i64 ka,str t1,str t2,str t3,str t4,vU,i64 0,i64 0,i64 0,.slice none 0 0] l bad F ∧ Gs w' 3 1 vU L.length (L.map i64) B0 ∧ uidL N l2 bad2 [] = uidL k l bad L ∧ L.length = i ∧ (∀ z ∈ L,0 ≤ z ∧ z ≤ 4611686018427387904) ∧ l.length ≤ p.length ∧ B0 ≤ w'.heap.size) (f 7) w') (fun f _ => N - (intOf (f 7)).toNat)
  ⟨0,N,[],l2,bad2,_,rfl,by omega,d,Gs.nil _ _ _ _,rfl,rfl,by simp,by omega,hB08⟩ ?_
 clear d
 rintro f w7 ⟨i,k,L,l,bad,vU,f7,hik,d,hG,hE,hLi,hLb,hL3,hB7⟩
 obtain ⟨Ah,ch,hbh,_⟩:=id d.rd
 have h1c:=hbh.cell 1
 have ht:txt4 a.2.1 a.2.2 = ((t1,t2,t3,t4),b4.2):=by
  unfold txt4
  rw [hb1,hb2,hb3,hb4,ht1,ht2,ht3,ht4]
 have hxB:=d.hx
 by_cases hk0:k = 0
 ·subst hk0
  have hE:uidL N l2 bad2 [] = (L,l,bad):=hE
  by_cases hin:i < n
  ·have hi25:¬ i ≤ 24:=by omega
   have hi25':¬ (i:Int) ≤ 24:=by omega
   cases bad with
   | true =>
    simp -dsimp [go_sem,f7,h1c,hin]
    have lx1:=numL_len l true
    have lx2:=nm2_len l true
    have lx3:=nm3_len l true
    refine call (d.num (by omega)) ?_
    rintro v w8 ⟨rfl,d,k8⟩
    have bm8:=numL_le l true
    obtain ⟨m,hm⟩:∃ m:Nat,(numL l true).1 = m:=⟨_,rfl⟩
    have e8:(numL l true).1 = m:=hm
    rw [hm] at bm8
    rw [e8]
    have y6:=d.bx.cell 6
    have z6:=d.bx.frozen 6
    have d:Dx w (w8.setCell ⟨x,6,none⟩ (i64 m)) x r0 h #[i64 ka,str t1,str t2,str t3,str t4,vU,i64 m,i64 0,i64 0,.slice none 0 0] (numL l true).2.1 (numL l true).2.2 F:=by simpa using d.set 6 (i64 (m:Int))
    have k8:Kp (fun k => k = h ∨ k = x) w7 (w8.setCell ⟨x,6,none⟩ (i64 m)):=(k8.mono fun i _ e => .inl e).trans ((Kp.refl _ _).setCell_at _ _) fun i _ e => .inr e
    simp -dsimp [go_sem,y6,z6]
    generalize w8.setCell ⟨x,6,none⟩ (i64 m) = w9 at *
    have hG:=hG.kp k8 fun i hi _ e => by omega
    refine call (d.num (by omega)) ?_
    rintro v w10 ⟨rfl,d,k10⟩
    rw [show numL (numL l true).2.1 (numL l true).2.2 = nm2 l true from rfl] at d ⊢
    have bm10:=numL_le (numL l true).2.1 (numL l true).2.2
    obtain ⟨fl,hfl⟩:∃ m:Nat,(numL (numL l true).2.1 (numL l true).2.2).1 = m:=⟨_,rfl⟩
    have e10:(nm2 l true).1 = fl:=hfl
    rw [hfl] at bm10
    rw [e10]
    have y7:=d.bx.cell 7
    have z7:=d.bx.frozen 7
    have d:Dx w (w10.setCell ⟨x,7,none⟩ (i64 fl)) x r0 h #[i64 ka,str t1,str t2,str t3,str t4,vU,i64 m,i64 fl,i64 0,.slice none 0 0] (nm2 l true).2.1 (nm2 l true).2.2 F:=by simpa using d.set 7 (i64 (fl:Int))
    have k10:Kp (fun k => k = h ∨ k = x) w9 (w10.setCell ⟨x,7,none⟩ (i64 fl)):=(k10.mono fun i _ e => .inl e).trans ((Kp.refl _ _).setCell_at _ _) fun i _ e => .inr e
    simp -dsimp [go_sem,y7,z7]
    generalize w10.setCell ⟨x,7,none⟩ (i64 fl) = w11 at *
    have hG:=hG.kp k10 fun i hi _ e => by omega
    refine call (d.num (by omega)) ?_
    rintro v w12 ⟨rfl,d,k12⟩
    rw [show numL (nm2 l true).2.1 (nm2 l true).2.2 = nm3 l true from rfl] at d ⊢
    have bm12:=numL_le (nm2 l true).2.1 (nm2 l true).2.2
    obtain ⟨dt,hdt⟩:∃ m:Nat,(numL (nm2 l true).2.1 (nm2 l true).2.2).1 = m:=⟨_,rfl⟩
    have e12:(nm3 l true).1 = dt:=hdt
    rw [hdt] at bm12
    rw [e12]
    have y8:=d.bx.cell 8
    have z8:=d.bx.frozen 8
    have d:Dx w (w12.setCell ⟨x,8,none⟩ (i64 dt)) x r0 h #[i64 ka,str t1,str t2,str t3,str t4,vU,i64 m,i64 fl,i64 dt,.slice none 0 0] (nm3 l true).2.1 (nm3 l true).2.2 F:=by simpa using d.set 8 (i64 (dt:Int))
    have k12:Kp (fun k => k = h ∨ k = x) w11 (w12.setCell ⟨x,8,none⟩ (i64 dt)):=(k12.mono fun i _ e => .inl e).trans ((Kp.refl _ _).setCell_at _ _) fun i _ e => .inr e
    simp -dsimp [go_sem,y8,z8]
    generalize w12.setCell ⟨x,8,none⟩ (i64 dt) = w13 at *
    have hG:=hG.kp k12 fun i hi _ e => by omega
    refine call (d.bytes (by omega)) ?_
    rintro v w14 ⟨hBq,d,k14⟩
    have lx4:=bytL_size (nm3 l true).2.1 (nm3 l true).2.2
    obtain ⟨bb,hbb⟩:∃ b,bytL (nm3 l true).2.1 (nm3 l true).2.2 = b:=⟨_,rfl⟩
    rw [hbb] at lx4 d hBq
    obtain ⟨bd,hbd⟩:∃ b,bb.1 = b:=⟨_,rfl⟩
    rw [hbd] at lx4 hBq
    obtain ⟨X,xc,rfl,hoX,hX⟩:=hBq
    have u0:=d.bx.cell 0
    have y9:=d.bx.cell 9
    have z9:=d.bx.frozen 9
    have d:Dx w (w14.setCell ⟨x,9,none⟩ (.slice X bd.length xc)) x r0 h #[i64 ka,str t1,str t2,str t3,str t4,vU,i64 m,i64 fl,i64 dt,.slice X bd.length xc] bb.2.1 bb.2.2 F:=by simpa using d.set 9 (.slice X bd.length xc)
    have ks:Kp (At x) w14 (w14.setCell ⟨x,9,none⟩ (.slice X bd.length xc)):=(Kp.refl _ _).setCell_at _ _
    have hG:=(hG.kp k14 fun i hi _ (e:i = h) => by omega).kp ks fun i hi _ (e:i = x) => by omega
    have hx13:x < w13.heap.size:=by have:=k14.size; have:=k12.size; have:=k10.size; have:=k8.size; omega
    have hoX:=hoX.kp ks fun a ha (e:a.block = x) => by have:=hX a ha; omega
    simp -dsimp [go_sem,y9,z9]
    generalize w14.setCell ⟨x,9,none⟩ (.slice X bd.length xc) = w15 at *
    obtain ⟨U5,u5,rfl,hoU,hU5⟩:=hG
    obtain ⟨C,hC⟩:∃ C:Chg,C = ⟨ka,t1,t2,t3,t4,L,m,fl,dt,bd⟩:=⟨_,rfl⟩
    have hRC:RC w15 (.agg #[i64 ka,str t1,str t2,str t3,str t4,.slice U5 L.length u5,i64 m,i64 fl,i64 dt,.slice X bd.length xc]) C (fun _ => False):=by rw [hC]; exact ⟨U5,u5,X,xc,rfl,hoU.2.1,hoX.2.1,hoU.rd,fun _ _ _ h => h,hoX.rd,fun _ _ _ h => h⟩
    have hCs:CSz C:=by rw [hC]; exact ⟨by simp only; omega,by simp only; omega,by simp only; omega,by simp only; omega,by simp only; omega,by simp only; omega,fun n hn => by have:=hLb n hn; omega⟩
    have hCk:C.kind = ka:=by rw [hC]
    have er:rcRead p = (C,bb.2):=by
     have hy:=tailN_eq (n:=N) hE hm hfl rfl hbb
     have hy2:tailN (min q.1 25) q.2.1 q.2.2 = tailMk (L,l,true) m fl (nm3 l true) bb:=by
      rw [← hn,← hN,hl2,hbad2]
      exact hy
     rw [rcRead_eq ha ht ((tailX_eq hq).trans hy2),hC]
     unfold chMk tailMk
     simp only [← hka,e12,hbd]
    have hokk:rcOk p = (((!bb.2.2 && bb.2.1.isEmpty) && chgOk C) && decide (encC C = p)):=by unfold rcOk; rw [er]
    have y0:=d.bx.cell 0
    have y1:=d.bx.cell 1
    have y2:=d.bx.cell 2
    have y3:=d.bx.cell 3
    have y4:=d.bx.cell 4
    have y5:=d.bx.cell 5
    have y6:=d.bx.cell 6
    have y7:=d.bx.cell 7
    have y8:=d.bx.cell 8
    have y9:=d.bx.cell 9
    simp -dsimp [go_sem,u0,y0,y1,y2,y3,y4,y5,y6,y7,y8,y9]
    refine call (rcEncode_spec _ C w15 _ hRC hCs (by omega)) ?_
    rintro v w16 ⟨hER,k16⟩
    have d:=d.nw k16
    have hRC:=hRC.nw k16
    have x0c:=d.bx.cell 0
    have x1c:=d.bx.cell 1
    have x2c:=d.bx.cell 2
    have x3c:=d.bx.cell 3
    have x4c:=d.bx.cell 4
    have x5c:=d.bx.cell 5
    have x6c:=d.bx.cell 6
    have x7c:=d.bx.cell 7
    have x8c:=d.bx.cell 8
    have x9c:=d.bx.cell 9
    have hbr:=d.br
    unfold zeroC at hbr
    have r0c:=hbr.cell 0
    have r1c:=hbr.cell 1
    have r2c:=hbr.cell 2
    have r3c:=hbr.cell 3
    have r4c:=hbr.cell 4
    have r5c:=hbr.cell 5
    have r6c:=hbr.cell 6
    have r7c:=hbr.cell 7
    have r8c:=hbr.cell 8
    have r9c:=hbr.cell 9
    have r0f:=hbr.frozen 0
    have r1f:=hbr.frozen 1
    have r2f:=hbr.frozen 2
    have r3f:=hbr.frozen 3
    have r4f:=hbr.frozen 4
    have r5f:=hbr.frozen 5
    have r6f:=hbr.frozen 6
    have r7f:=hbr.frozen 7
    have r8f:=hbr.frozen 8
    have r9f:=hbr.frozen 9
    have hset:=set10 w16 r0
    have hnr:=d.new
    have fin:∀ v0 v1 v2 v3 v4 v5 v6 v7 v8 v9,Nw w ((((((((((w16.setCell ⟨r0,0,none⟩ v0).setCell ⟨r0,1,none⟩ v1).setCell ⟨r0,2,none⟩ v2).setCell ⟨r0,3,none⟩ v3).setCell ⟨r0,4,none⟩ v4).setCell ⟨r0,5,none⟩ v5).setCell ⟨r0,6,none⟩ v6).setCell ⟨r0,7,none⟩ v7).setCell ⟨r0,8,none⟩ v8).setCell ⟨r0,9,none⟩ v9):=fun _ _ _ _ _ _ _ _ _ _ => d.on.at_ (hset _ _ _ _ _ _ _ _ _ _) fun k (e:k = r0) => by omega
    rcases hER with ⟨hib,u,rfl,hBq⟩ | ⟨hib,rfl⟩
    ·obtain ⟨Z,zc,rfl,hoZ,hZ⟩:=id hBq
     rw [hib] at hokk
     simp -dsimp [go_sem]
     refine call (refWhole_spec h bb.2.1 bb.2.2 F w16 d.rd) ?_
     rintro v w17 ⟨rfl,rfl⟩
     cases hwh:(!bb.2.2 && bb.2.1.isEmpty) with
     | false =>
      rw [hwh] at hokk
      simp -dsimp [go_sem,r0c,r1c,r2c,r3c,r4c,r5c,r6c,r7c,r8c,r9c,r0f,r1f,r2f,r3f,r4f,r5f,r6f,r7f,r8f,r9f]
      exact ⟨.inr ⟨hokk,rfl⟩,fin _ _ _ _ _ _ _ _ _ _⟩
     | true =>
      rw [hwh] at hokk
      have hcv1:convR Tryz.prog 23 9 (.slice Z (encC C).length zc) w16 = .ok (str (encC C)) w16:=nm_conv hoZ.rd
      have hcv2:convR Tryz.prog 23 9 (.slice A p.length c) w16 = .ok (str p) w16:=nm_conv (hr.nw d.on)
      by_cases hq2:encC C = p
      ·rw [decide_eq_true hq2] at hokk
       have hokk:rcOk p = true:=hokk
       have hqb:(encC C == p) = true:=by simpa using hq2
       generalize encC C = EC at *
       simp -dsimp [go_sem,hcv1,hcv2,hqb,x0c,x1c,x2c,x3c,x4c,x5c,x6c,x7c,x8c,x9c,r0c,r1c,r2c,r3c,r4c,r5c,r6c,r7c,r8c,r9c,r0f,r1f,r2f,r3f,r4f,r5f,r6f,r7f,r8f,r9f]
       refine ⟨.inl ⟨hokk,_,rfl,?_⟩,fin _ _ _ _ _ _ _ _ _ _⟩
       rw [er]
       have hr0h:=d.hr
       have hhx:=d.hx
       have hoU2:=(hoU.nw k16).kp (hset (i64 ka) (str t1) (str t2) (str t3) (str t4) (.slice U5 L.length u5) (i64 m) (i64 fl) (i64 dt) (.slice X bd.length xc)) fun a ha (e:a.block = r0) => by have:=hU5 a ha; omega
       have hoX2:=(hoX.nw k16).kp (hset (i64 ka) (str t1) (str t2) (str t3) (str t4) (.slice U5 L.length u5) (i64 m) (i64 fl) (i64 dt) (.slice X bd.length xc)) fun a ha (e:a.block = r0) => by have:=hX a ha; omega
       show RC _ _ C _
       rw [hC]
       exact ⟨U5,u5,X,xc,rfl,hoU2.2.1,hoX2.2.1,hoU2.rd,fun _ _ _ h => h,hoX2.rd,fun _ _ _ h => h⟩
      ·rw [decide_eq_false hq2] at hokk
       have hokk:rcOk p = false:=hokk
       have hqb:(encC C == p) = false:=by simpa using hq2
       generalize encC C = EC at *
       simp -dsimp [go_sem,hcv1,hcv2,hqb,r0c,r1c,r2c,r3c,r4c,r5c,r6c,r7c,r8c,r9c,r0f,r1f,r2f,r3f,r4f,r5f,r6f,r7f,r8f,r9f]
       exact ⟨.inr ⟨hokk,rfl⟩,fin _ _ _ _ _ _ _ _ _ _⟩
    ·rw [hib,Bool.and_false,Bool.false_and] at hokk
     simp -dsimp [go_sem]
     refine call (refWhole_spec h bb.2.1 bb.2.2 F w16 d.rd) ?_
     rintro v w17 ⟨rfl,rfl⟩
     cases hwh:(!bb.2.2 && bb.2.1.isEmpty) with
     | false =>
      simp -dsimp [go_sem,r0c,r1c,r2c,r3c,r4c,r5c,r6c,r7c,r8c,r9c,r0f,r1f,r2f,r3f,r4f,r5f,r6f,r7f,r8f,r9f]
      exact ⟨.inr ⟨hokk,rfl⟩,fin _ _ _ _ _ _ _ _ _ _⟩
     | true =>
      simp -dsimp [go_sem,r0c,r1c,r2c,r3c,r4c,r5c,r6c,r7c,r8c,r9c,r0f,r1f,r2f,r3f,r4f,r5f,r6f,r7f,r8f,r9f]
      exact ⟨.inr ⟨hokk,rfl⟩,fin _ _ _ _ _ _ _ _ _ _⟩
   | false =>
    simp -dsimp [go_sem,f7,h1c,hin,hi25,hi25']
    have lx1:=numL_len l false
    have lx2:=nm2_len l false
    have lx3:=nm3_len l false
    refine call (d.num (by omega)) ?_
    rintro v w8 ⟨rfl,d,k8⟩
    have bm8:=numL_le l false
    obtain ⟨m,hm⟩:∃ m:Nat,(numL l false).1 = m:=⟨_,rfl⟩
    have e8:(numL l false).1 = m:=hm
    rw [hm] at bm8
    rw [e8]
    have y6:=d.bx.cell 6
    have z6:=d.bx.frozen 6
    have d:Dx w (w8.setCell ⟨x,6,none⟩ (i64 m)) x r0 h #[i64 ka,str t1,str t2,str t3,str t4,vU,i64 m,i64 0,i64 0,.slice none 0 0] (numL l false).2.1 (numL l false).2.2 F:=by simpa using d.set 6 (i64 (m:Int))
    have k8:Kp (fun k => k = h ∨ k = x) w7 (w8.setCell ⟨x,6,none⟩ (i64 m)):=(k8.mono fun i _ e => .inl e).trans ((Kp.refl _ _).setCell_at _ _) fun i _ e => .inr e
    simp -dsimp [go_sem,y6,z6]
    generalize w8.setCell ⟨x,6,none⟩ (i64 m) = w9 at *
    have hG:=hG.kp k8 fun i hi _ e => by omega
    refine call (d.num (by omega)) ?_
    rintro v w10 ⟨rfl,d,k10⟩
    rw [show numL (numL l false).2.1 (numL l false).2.2 = nm2 l false from rfl] at d ⊢
    have bm10:=numL_le (numL l false).2.1 (numL l false).2.2
    obtain ⟨fl,hfl⟩:∃ m:Nat,(numL (numL l false).2.1 (numL l false).2.2).1 = m:=⟨_,rfl⟩
    have e10:(nm2 l false).1 = fl:=hfl
    rw [hfl] at bm10
    rw [e10]
    have y7:=d.bx.cell 7
    have z7:=d.bx.frozen 7
    have d:Dx w (w10.setCell ⟨x,7,none⟩ (i64 fl)) x r0 h #[i64 ka,str t1,str t2,str t3,str t4,vU,i64 m,i64 fl,i64 0,.slice none 0 0] (nm2 l false).2.1 (nm2 l false).2.2 F:=by simpa using d.set 7 (i64 (fl:Int))
    have k10:Kp (fun k => k = h ∨ k = x) w9 (w10.setCell ⟨x,7,none⟩ (i64 fl)):=(k10.mono fun i _ e => .inl e).trans ((Kp.refl _ _).setCell_at _ _) fun i _ e => .inr e
    simp -dsimp [go_sem,y7,z7]
    generalize w10.setCell ⟨x,7,none⟩ (i64 fl) = w11 at *
    have hG:=hG.kp k10 fun i hi _ e => by omega
    refine call (d.num (by omega)) ?_
    rintro v w12 ⟨rfl,d,k12⟩
    rw [show numL (nm2 l false).2.1 (nm2 l false).2.2 = nm3 l false from rfl] at d ⊢
    have bm12:=numL_le (nm2 l false).2.1 (nm2 l false).2.2
    obtain ⟨dt,hdt⟩:∃ m:Nat,(numL (nm2 l false).2.1 (nm2 l false).2.2).1 = m:=⟨_,rfl⟩
    have e12:(nm3 l false).1 = dt:=hdt
    rw [hdt] at bm12
    rw [e12]
    have y8:=d.bx.cell 8
    have z8:=d.bx.frozen 8
    have d:Dx w (w12.setCell ⟨x,8,none⟩ (i64 dt)) x r0 h #[i64 ka,str t1,str t2,str t3,str t4,vU,i64 m,i64 fl,i64 dt,.slice none 0 0] (nm3 l false).2.1 (nm3 l false).2.2 F:=by simpa using d.set 8 (i64 (dt:Int))
    have k12:Kp (fun k => k = h ∨ k = x) w11 (w12.setCell ⟨x,8,none⟩ (i64 dt)):=(k12.mono fun i _ e => .inl e).trans ((Kp.refl _ _).setCell_at _ _) fun i _ e => .inr e
    simp -dsimp [go_sem,y8,z8]
    generalize w12.setCell ⟨x,8,none⟩ (i64 dt) = w13 at *
    have hG:=hG.kp k12 fun i hi _ e => by omega
    refine call (d.bytes (by omega)) ?_
    rintro v w14 ⟨hBq,d,k14⟩
    have lx4:=bytL_size (nm3 l false).2.1 (nm3 l false).2.2
    obtain ⟨bb,hbb⟩:∃ b,bytL (nm3 l false).2.1 (nm3 l false).2.2 = b:=⟨_,rfl⟩
    rw [hbb] at lx4 d hBq
    obtain ⟨bd,hbd⟩:∃ b,bb.1 = b:=⟨_,rfl⟩
    rw [hbd] at lx4 hBq
    obtain ⟨X,xc,rfl,hoX,hX⟩:=hBq
    have u0:=d.bx.cell 0
    have y9:=d.bx.cell 9
    have z9:=d.bx.frozen 9
    have d:Dx w (w14.setCell ⟨x,9,none⟩ (.slice X bd.length xc)) x r0 h #[i64 ka,str t1,str t2,str t3,str t4,vU,i64 m,i64 fl,i64 dt,.slice X bd.length xc] bb.2.1 bb.2.2 F:=by simpa using d.set 9 (.slice X bd.length xc)
    have ks:Kp (At x) w14 (w14.setCell ⟨x,9,none⟩ (.slice X bd.length xc)):=(Kp.refl _ _).setCell_at _ _
    have hG:=(hG.kp k14 fun i hi _ (e:i = h) => by omega).kp ks fun i hi _ (e:i = x) => by omega
    have hx13:x < w13.heap.size:=by have:=k14.size; have:=k12.size; have:=k10.size; have:=k8.size; omega
    have hoX:=hoX.kp ks fun a ha (e:a.block = x) => by have:=hX a ha; omega
    simp -dsimp [go_sem,y9,z9]
    generalize w14.setCell ⟨x,9,none⟩ (.slice X bd.length xc) = w15 at *
    obtain ⟨U5,u5,rfl,hoU,hU5⟩:=hG
    obtain ⟨C,hC⟩:∃ C:Chg,C = ⟨ka,t1,t2,t3,t4,L,m,fl,dt,bd⟩:=⟨_,rfl⟩
    have hRC:RC w15 (.agg #[i64 ka,str t1,str t2,str t3,str t4,.slice U5 L.length u5,i64 m,i64 fl,i64 dt,.slice X bd.length xc]) C (fun _ => False):=by rw [hC]; exact ⟨U5,u5,X,xc,rfl,hoU.2.1,hoX.2.1,hoU.rd,fun _ _ _ h => h,hoX.rd,fun _ _ _ h => h⟩
    have hCs:CSz C:=by rw [hC]; exact ⟨by simp only; omega,by simp only; omega,by simp only; omega,by simp only; omega,by simp only; omega,by simp only; omega,fun n hn => by have:=hLb n hn; omega⟩
    have hCk:C.kind = ka:=by rw [hC]
    have er:rcRead p = (C,bb.2):=by
     have hy:=tailN_eq (n:=N) hE hm hfl rfl hbb
     have hy2:tailN (min q.1 25) q.2.1 q.2.2 = tailMk (L,l,false) m fl (nm3 l false) bb:=by
      rw [← hn,← hN,hl2,hbad2]
      exact hy
     rw [rcRead_eq ha ht ((tailX_eq hq).trans hy2),hC]
     unfold chMk tailMk
     simp only [← hka,e12,hbd]
    have hokk:rcOk p = (((!bb.2.2 && bb.2.1.isEmpty) && chgOk C) && decide (encC C = p)):=by unfold rcOk; rw [er]
    have y0:=d.bx.cell 0
    have y1:=d.bx.cell 1
    have y2:=d.bx.cell 2
    have y3:=d.bx.cell 3
    have y4:=d.bx.cell 4
    have y5:=d.bx.cell 5
    have y6:=d.bx.cell 6
    have y7:=d.bx.cell 7
    have y8:=d.bx.cell 8
    have y9:=d.bx.cell 9
    simp -dsimp [go_sem,u0,y0,y1,y2,y3,y4,y5,y6,y7,y8,y9]
    refine call (rcEncode_spec _ C w15 _ hRC hCs (by omega)) ?_
    rintro v w16 ⟨hER,k16⟩
    have d:=d.nw k16
    have hRC:=hRC.nw k16
    have x0c:=d.bx.cell 0
    have x1c:=d.bx.cell 1
    have x2c:=d.bx.cell 2
    have x3c:=d.bx.cell 3
    have x4c:=d.bx.cell 4
    have x5c:=d.bx.cell 5
    have x6c:=d.bx.cell 6
    have x7c:=d.bx.cell 7
    have x8c:=d.bx.cell 8
    have x9c:=d.bx.cell 9
    have hbr:=d.br
    unfold zeroC at hbr
    have r0c:=hbr.cell 0
    have r1c:=hbr.cell 1
    have r2c:=hbr.cell 2
    have r3c:=hbr.cell 3
    have r4c:=hbr.cell 4
    have r5c:=hbr.cell 5
    have r6c:=hbr.cell 6
    have r7c:=hbr.cell 7
    have r8c:=hbr.cell 8
    have r9c:=hbr.cell 9
    have r0f:=hbr.frozen 0
    have r1f:=hbr.frozen 1
    have r2f:=hbr.frozen 2
    have r3f:=hbr.frozen 3
    have r4f:=hbr.frozen 4
    have r5f:=hbr.frozen 5
    have r6f:=hbr.frozen 6
    have r7f:=hbr.frozen 7
    have r8f:=hbr.frozen 8
    have r9f:=hbr.frozen 9
    have hset:=set10 w16 r0
    have hnr:=d.new
    have fin:∀ v0 v1 v2 v3 v4 v5 v6 v7 v8 v9,Nw w ((((((((((w16.setCell ⟨r0,0,none⟩ v0).setCell ⟨r0,1,none⟩ v1).setCell ⟨r0,2,none⟩ v2).setCell ⟨r0,3,none⟩ v3).setCell ⟨r0,4,none⟩ v4).setCell ⟨r0,5,none⟩ v5).setCell ⟨r0,6,none⟩ v6).setCell ⟨r0,7,none⟩ v7).setCell ⟨r0,8,none⟩ v8).setCell ⟨r0,9,none⟩ v9):=fun _ _ _ _ _ _ _ _ _ _ => d.on.at_ (hset _ _ _ _ _ _ _ _ _ _) fun k (e:k = r0) => by omega
    rcases hER with ⟨hib,u,rfl,hBq⟩ | ⟨hib,rfl⟩
    ·obtain ⟨Z,zc,rfl,hoZ,hZ⟩:=id hBq
     rw [hib] at hokk
     simp -dsimp [go_sem]
     refine call (refWhole_spec h bb.2.1 bb.2.2 F w16 d.rd) ?_
     rintro v w17 ⟨rfl,rfl⟩
     cases hwh:(!bb.2.2 && bb.2.1.isEmpty) with
     | false =>
      rw [hwh] at hokk
      simp -dsimp [go_sem,r0c,r1c,r2c,r3c,r4c,r5c,r6c,r7c,r8c,r9c,r0f,r1f,r2f,r3f,r4f,r5f,r6f,r7f,r8f,r9f]
      exact ⟨.inr ⟨hokk,rfl⟩,fin _ _ _ _ _ _ _ _ _ _⟩
     | true =>
      rw [hwh] at hokk
      have hcv1:convR Tryz.prog 23 9 (.slice Z (encC C).length zc) w16 = .ok (str (encC C)) w16:=nm_conv hoZ.rd
      have hcv2:convR Tryz.prog 23 9 (.slice A p.length c) w16 = .ok (str p) w16:=nm_conv (hr.nw d.on)
      by_cases hq2:encC C = p
      ·rw [decide_eq_true hq2] at hokk
       have hokk:rcOk p = true:=hokk
       have hqb:(encC C == p) = true:=by simpa using hq2
       generalize encC C = EC at *
       simp -dsimp [go_sem,hcv1,hcv2,hqb,x0c,x1c,x2c,x3c,x4c,x5c,x6c,x7c,x8c,x9c,r0c,r1c,r2c,r3c,r4c,r5c,r6c,r7c,r8c,r9c,r0f,r1f,r2f,r3f,r4f,r5f,r6f,r7f,r8f,r9f]
       refine ⟨.inl ⟨hokk,_,rfl,?_⟩,fin _ _ _ _ _ _ _ _ _ _⟩
       rw [er]
       have hr0h:=d.hr
       have hhx:=d.hx
       have hoU2:=(hoU.nw k16).kp (hset (i64 ka) (str t1) (str t2) (str t3) (str t4) (.slice U5 L.length u5) (i64 m) (i64 fl) (i64 dt) (.slice X bd.length xc)) fun a ha (e:a.block = r0) => by have:=hU5 a ha; omega
       have hoX2:=(hoX.nw k16).kp (hset (i64 ka) (str t1) (str t2) (str t3) (str t4) (.slice U5 L.length u5) (i64 m) (i64 fl) (i64 dt) (.slice X bd.length xc)) fun a ha (e:a.block = r0) => by have:=hX a ha; omega
       show RC _ _ C _
       rw [hC]
       exact ⟨U5,u5,X,xc,rfl,hoU2.2.1,hoX2.2.1,hoU2.rd,fun _ _ _ h => h,hoX2.rd,fun _ _ _ h => h⟩
      ·rw [decide_eq_false hq2] at hokk
       have hokk:rcOk p = false:=hokk
       have hqb:(encC C == p) = false:=by simpa using hq2
       generalize encC C = EC at *
       simp -dsimp [go_sem,hcv1,hcv2,hqb,r0c,r1c,r2c,r3c,r4c,r5c,r6c,r7c,r8c,r9c,r0f,r1f,r2f,r3f,r4f,r5f,r6f,r7f,r8f,r9f]
       exact ⟨.inr ⟨hokk,rfl⟩,fin _ _ _ _ _ _ _ _ _ _⟩
    ·rw [hib,Bool.and_false,Bool.false_and] at hokk
     simp -dsimp [go_sem]
     refine call (refWhole_spec h bb.2.1 bb.2.2 F w16 d.rd) ?_
     rintro v w17 ⟨rfl,rfl⟩
     cases hwh:(!bb.2.2 && bb.2.1.isEmpty) with
     | false =>
      simp -dsimp [go_sem,r0c,r1c,r2c,r3c,r4c,r5c,r6c,r7c,r8c,r9c,r0f,r1f,r2f,r3f,r4f,r5f,r6f,r7f,r8f,r9f]
      exact ⟨.inr ⟨hokk,rfl⟩,fin _ _ _ _ _ _ _ _ _ _⟩
     | true =>
      simp -dsimp [go_sem,r0c,r1c,r2c,r3c,r4c,r5c,r6c,r7c,r8c,r9c,r0f,r1f,r2f,r3f,r4f,r5f,r6f,r7f,r8f,r9f]
      exact ⟨.inr ⟨hokk,rfl⟩,fin _ _ _ _ _ _ _ _ _ _⟩
  ·simp -dsimp [go_sem,f7,h1c,hin]
   have lx1:=numL_len l bad
   have lx2:=nm2_len l bad
   have lx3:=nm3_len l bad
   refine call (d.num (by omega)) ?_
   rintro v w8 ⟨rfl,d,k8⟩
   have bm8:=numL_le l bad
   obtain ⟨m,hm⟩:∃ m:Nat,(numL l bad).1 = m:=⟨_,rfl⟩
   have e8:(numL l bad).1 = m:=hm
   rw [hm] at bm8
   rw [e8]
   have y6:=d.bx.cell 6
   have z6:=d.bx.frozen 6
   have d:Dx w (w8.setCell ⟨x,6,none⟩ (i64 m)) x r0 h #[i64 ka,str t1,str t2,str t3,str t4,vU,i64 m,i64 0,i64 0,.slice none 0 0] (numL l bad).2.1 (numL l bad).2.2 F:=by simpa using d.set 6 (i64 (m:Int))
   have k8:Kp (fun k => k = h ∨ k = x) w7 (w8.setCell ⟨x,6,none⟩ (i64 m)):=(k8.mono fun i _ e => .inl e).trans ((Kp.refl _ _).setCell_at _ _) fun i _ e => .inr e
   simp -dsimp [go_sem,y6,z6]
   generalize w8.setCell ⟨x,6,none⟩ (i64 m) = w9 at *
   have hG:=hG.kp k8 fun i hi _ e => by omega
   refine call (d.num (by omega)) ?_
   rintro v w10 ⟨rfl,d,k10⟩
   rw [show numL (numL l bad).2.1 (numL l bad).2.2 = nm2 l bad from rfl] at d ⊢
   have bm10:=numL_le (numL l bad).2.1 (numL l bad).2.2
   obtain ⟨fl,hfl⟩:∃ m:Nat,(numL (numL l bad).2.1 (numL l bad).2.2).1 = m:=⟨_,rfl⟩
   have e10:(nm2 l bad).1 = fl:=hfl
   rw [hfl] at bm10
   rw [e10]
   have y7:=d.bx.cell 7
   have z7:=d.bx.frozen 7
   have d:Dx w (w10.setCell ⟨x,7,none⟩ (i64 fl)) x r0 h #[i64 ka,str t1,str t2,str t3,str t4,vU,i64 m,i64 fl,i64 0,.slice none 0 0] (nm2 l bad).2.1 (nm2 l bad).2.2 F:=by simpa using d.set 7 (i64 (fl:Int))
   have k10:Kp (fun k => k = h ∨ k = x) w9 (w10.setCell ⟨x,7,none⟩ (i64 fl)):=(k10.mono fun i _ e => .inl e).trans ((Kp.refl _ _).setCell_at _ _) fun i _ e => .inr e
   simp -dsimp [go_sem,y7,z7]
   generalize w10.setCell ⟨x,7,none⟩ (i64 fl) = w11 at *
   have hG:=hG.kp k10 fun i hi _ e => by omega
   refine call (d.num (by omega)) ?_
   rintro v w12 ⟨rfl,d,k12⟩
   rw [show numL (nm2 l bad).2.1 (nm2 l bad).2.2 = nm3 l bad from rfl] at d ⊢
   have bm12:=numL_le (nm2 l bad).2.1 (nm2 l bad).2.2
   obtain ⟨dt,hdt⟩:∃ m:Nat,(numL (nm2 l bad).2.1 (nm2 l bad).2.2).1 = m:=⟨_,rfl⟩
   have e12:(nm3 l bad).1 = dt:=hdt
   rw [hdt] at bm12
   rw [e12]
   have y8:=d.bx.cell 8
   have z8:=d.bx.frozen 8
   have d:Dx w (w12.setCell ⟨x,8,none⟩ (i64 dt)) x r0 h #[i64 ka,str t1,str t2,str t3,str t4,vU,i64 m,i64 fl,i64 dt,.slice none 0 0] (nm3 l bad).2.1 (nm3 l bad).2.2 F:=by simpa using d.set 8 (i64 (dt:Int))
   have k12:Kp (fun k => k = h ∨ k = x) w11 (w12.setCell ⟨x,8,none⟩ (i64 dt)):=(k12.mono fun i _ e => .inl e).trans ((Kp.refl _ _).setCell_at _ _) fun i _ e => .inr e
   simp -dsimp [go_sem,y8,z8]
   generalize w12.setCell ⟨x,8,none⟩ (i64 dt) = w13 at *
   have hG:=hG.kp k12 fun i hi _ e => by omega
   refine call (d.bytes (by omega)) ?_
   rintro v w14 ⟨hBq,d,k14⟩
   have lx4:=bytL_size (nm3 l bad).2.1 (nm3 l bad).2.2
   obtain ⟨bb,hbb⟩:∃ b,bytL (nm3 l bad).2.1 (nm3 l bad).2.2 = b:=⟨_,rfl⟩
   rw [hbb] at lx4 d hBq
   obtain ⟨bd,hbd⟩:∃ b,bb.1 = b:=⟨_,rfl⟩
   rw [hbd] at lx4 hBq
   obtain ⟨X,xc,rfl,hoX,hX⟩:=hBq
   have u0:=d.bx.cell 0
   have y9:=d.bx.cell 9
   have z9:=d.bx.frozen 9
   have d:Dx w (w14.setCell ⟨x,9,none⟩ (.slice X bd.length xc)) x r0 h #[i64 ka,str t1,str t2,str t3,str t4,vU,i64 m,i64 fl,i64 dt,.slice X bd.length xc] bb.2.1 bb.2.2 F:=by simpa using d.set 9 (.slice X bd.length xc)
   have ks:Kp (At x) w14 (w14.setCell ⟨x,9,none⟩ (.slice X bd.length xc)):=(Kp.refl _ _).setCell_at _ _
   have hG:=(hG.kp k14 fun i hi _ (e:i = h) => by omega).kp ks fun i hi _ (e:i = x) => by omega
   have hx13:x < w13.heap.size:=by have:=k14.size; have:=k12.size; have:=k10.size; have:=k8.size; omega
   have hoX:=hoX.kp ks fun a ha (e:a.block = x) => by have:=hX a ha; omega
   simp -dsimp [go_sem,y9,z9]
   generalize w14.setCell ⟨x,9,none⟩ (.slice X bd.length xc) = w15 at *
   obtain ⟨U5,u5,rfl,hoU,hU5⟩:=hG
   obtain ⟨C,hC⟩:∃ C:Chg,C = ⟨ka,t1,t2,t3,t4,L,m,fl,dt,bd⟩:=⟨_,rfl⟩
   have hRC:RC w15 (.agg #[i64 ka,str t1,str t2,str t3,str t4,.slice U5 L.length u5,i64 m,i64 fl,i64 dt,.slice X bd.length xc]) C (fun _ => False):=by rw [hC]; exact ⟨U5,u5,X,xc,rfl,hoU.2.1,hoX.2.1,hoU.rd,fun _ _ _ h => h,hoX.rd,fun _ _ _ h => h⟩
   have hCs:CSz C:=by rw [hC]; exact ⟨by simp only; omega,by simp only; omega,by simp only; omega,by simp only; omega,by simp only; omega,by simp only; omega,fun n hn => by have:=hLb n hn; omega⟩
   have hCk:C.kind = ka:=by rw [hC]
   have er:rcRead p = (C,bb.2):=by
    have hy:=tailN_eq (n:=N) hE hm hfl rfl hbb
    have hy2:tailN (min q.1 25) q.2.1 q.2.2 = tailMk (L,l,bad) m fl (nm3 l bad) bb:=by
     rw [← hn,← hN,hl2,hbad2]
     exact hy
    rw [rcRead_eq ha ht ((tailX_eq hq).trans hy2),hC]
    unfold chMk tailMk
    simp only [← hka,e12,hbd]
   have hokk:rcOk p = (((!bb.2.2 && bb.2.1.isEmpty) && chgOk C) && decide (encC C = p)):=by unfold rcOk; rw [er]
   have y0:=d.bx.cell 0
   have y1:=d.bx.cell 1
   have y2:=d.bx.cell 2
   have y3:=d.bx.cell 3
   have y4:=d.bx.cell 4
   have y5:=d.bx.cell 5
   have y6:=d.bx.cell 6
   have y7:=d.bx.cell 7
   have y8:=d.bx.cell 8
   have y9:=d.bx.cell 9
   simp -dsimp [go_sem,u0,y0,y1,y2,y3,y4,y5,y6,y7,y8,y9]
   refine call (rcEncode_spec _ C w15 _ hRC hCs (by omega)) ?_
   rintro v w16 ⟨hER,k16⟩
   have d:=d.nw k16
   have hRC:=hRC.nw k16
   have x0c:=d.bx.cell 0
   have x1c:=d.bx.cell 1
   have x2c:=d.bx.cell 2
   have x3c:=d.bx.cell 3
   have x4c:=d.bx.cell 4
   have x5c:=d.bx.cell 5
   have x6c:=d.bx.cell 6
   have x7c:=d.bx.cell 7
   have x8c:=d.bx.cell 8
   have x9c:=d.bx.cell 9
   have hbr:=d.br
   unfold zeroC at hbr
   have r0c:=hbr.cell 0
   have r1c:=hbr.cell 1
   have r2c:=hbr.cell 2
   have r3c:=hbr.cell 3
   have r4c:=hbr.cell 4
   have r5c:=hbr.cell 5
   have r6c:=hbr.cell 6
   have r7c:=hbr.cell 7
   have r8c:=hbr.cell 8
   have r9c:=hbr.cell 9
   have r0f:=hbr.frozen 0
   have r1f:=hbr.frozen 1
   have r2f:=hbr.frozen 2
   have r3f:=hbr.frozen 3
   have r4f:=hbr.frozen 4
   have r5f:=hbr.frozen 5
   have r6f:=hbr.frozen 6
   have r7f:=hbr.frozen 7
   have r8f:=hbr.frozen 8
   have r9f:=hbr.frozen 9
   have hset:=set10 w16 r0
   have hnr:=d.new
   have fin:∀ v0 v1 v2 v3 v4 v5 v6 v7 v8 v9,Nw w ((((((((((w16.setCell ⟨r0,0,none⟩ v0).setCell ⟨r0,1,none⟩ v1).setCell ⟨r0,2,none⟩ v2).setCell ⟨r0,3,none⟩ v3).setCell ⟨r0,4,none⟩ v4).setCell ⟨r0,5,none⟩ v5).setCell ⟨r0,6,none⟩ v6).setCell ⟨r0,7,none⟩ v7).setCell ⟨r0,8,none⟩ v8).setCell ⟨r0,9,none⟩ v9):=fun _ _ _ _ _ _ _ _ _ _ => d.on.at_ (hset _ _ _ _ _ _ _ _ _ _) fun k (e:k = r0) => by omega
   rcases hER with ⟨hib,u,rfl,hBq⟩ | ⟨hib,rfl⟩
   ·obtain ⟨Z,zc,rfl,hoZ,hZ⟩:=id hBq
    rw [hib] at hokk
    simp -dsimp [go_sem]
    refine call (refWhole_spec h bb.2.1 bb.2.2 F w16 d.rd) ?_
    rintro v w17 ⟨rfl,rfl⟩
    cases hwh:(!bb.2.2 && bb.2.1.isEmpty) with
    | false =>
     rw [hwh] at hokk
     simp -dsimp [go_sem,r0c,r1c,r2c,r3c,r4c,r5c,r6c,r7c,r8c,r9c,r0f,r1f,r2f,r3f,r4f,r5f,r6f,r7f,r8f,r9f]
     exact ⟨.inr ⟨hokk,rfl⟩,fin _ _ _ _ _ _ _ _ _ _⟩
    | true =>
     rw [hwh] at hokk
     have hcv1:convR Tryz.prog 23 9 (.slice Z (encC C).length zc) w16 = .ok (str (encC C)) w16:=nm_conv hoZ.rd
     have hcv2:convR Tryz.prog 23 9 (.slice A p.length c) w16 = .ok (str p) w16:=nm_conv (hr.nw d.on)
     by_cases hq2:encC C = p
     ·rw [decide_eq_true hq2] at hokk
      have hokk:rcOk p = true:=hokk
      have hqb:(encC C == p) = true:=by simpa using hq2
      generalize encC C = EC at *
      simp -dsimp [go_sem,hcv1,hcv2,hqb,x0c,x1c,x2c,x3c,x4c,x5c,x6c,x7c,x8c,x9c,r0c,r1c,r2c,r3c,r4c,r5c,r6c,r7c,r8c,r9c,r0f,r1f,r2f,r3f,r4f,r5f,r6f,r7f,r8f,r9f]
      refine ⟨.inl ⟨hokk,_,rfl,?_⟩,fin _ _ _ _ _ _ _ _ _ _⟩
      rw [er]
      have hr0h:=d.hr
      have hhx:=d.hx
      have hoU2:=(hoU.nw k16).kp (hset (i64 ka) (str t1) (str t2) (str t3) (str t4) (.slice U5 L.length u5) (i64 m) (i64 fl) (i64 dt) (.slice X bd.length xc)) fun a ha (e:a.block = r0) => by have:=hU5 a ha; omega
      have hoX2:=(hoX.nw k16).kp (hset (i64 ka) (str t1) (str t2) (str t3) (str t4) (.slice U5 L.length u5) (i64 m) (i64 fl) (i64 dt) (.slice X bd.length xc)) fun a ha (e:a.block = r0) => by have:=hX a ha; omega
      show RC _ _ C _
      rw [hC]
      exact ⟨U5,u5,X,xc,rfl,hoU2.2.1,hoX2.2.1,hoU2.rd,fun _ _ _ h => h,hoX2.rd,fun _ _ _ h => h⟩
     ·rw [decide_eq_false hq2] at hokk
      have hokk:rcOk p = false:=hokk
      have hqb:(encC C == p) = false:=by simpa using hq2
      generalize encC C = EC at *
      simp -dsimp [go_sem,hcv1,hcv2,hqb,r0c,r1c,r2c,r3c,r4c,r5c,r6c,r7c,r8c,r9c,r0f,r1f,r2f,r3f,r4f,r5f,r6f,r7f,r8f,r9f]
      exact ⟨.inr ⟨hokk,rfl⟩,fin _ _ _ _ _ _ _ _ _ _⟩
   ·rw [hib,Bool.and_false,Bool.false_and] at hokk
    simp -dsimp [go_sem]
    refine call (refWhole_spec h bb.2.1 bb.2.2 F w16 d.rd) ?_
    rintro v w17 ⟨rfl,rfl⟩
    cases hwh:(!bb.2.2 && bb.2.1.isEmpty) with
    | false =>
     simp -dsimp [go_sem,r0c,r1c,r2c,r3c,r4c,r5c,r6c,r7c,r8c,r9c,r0f,r1f,r2f,r3f,r4f,r5f,r6f,r7f,r8f,r9f]
     exact ⟨.inr ⟨hokk,rfl⟩,fin _ _ _ _ _ _ _ _ _ _⟩
    | true =>
     simp -dsimp [go_sem,r0c,r1c,r2c,r3c,r4c,r5c,r6c,r7c,r8c,r9c,r0f,r1f,r2f,r3f,r4f,r5f,r6f,r7f,r8f,r9f]
     exact ⟨.inr ⟨hokk,rfl⟩,fin _ _ _ _ _ _ _ _ _ _⟩
 have hin:i < n:=by omega
 have hi24:i ≤ 24:=by omega
 have hi24':(i:Int) ≤ 24:=by omega
 cases bad with
 | true =>
  have hE:uidL N l2 bad2 [] = (L,l,true):=by
   rw [hE]
   obtain ⟨k1,hk1e⟩:∃ k1,k = k1 + 1:=⟨k - 1,by omega⟩
   rw [hk1e]; simp [uidL]
  simp -dsimp [go_sem,f7,h1c,hin]
  have lx1:=numL_len l true
  have lx2:=nm2_len l true
  have lx3:=nm3_len l true
  refine call (d.num (by omega)) ?_
  rintro v w8 ⟨rfl,d,k8⟩
  have bm8:=numL_le l true
  obtain ⟨m,hm⟩:∃ m:Nat,(numL l true).1 = m:=⟨_,rfl⟩
  have e8:(numL l true).1 = m:=hm
  rw [hm] at bm8
  rw [e8]
  have y6:=d.bx.cell 6
  have z6:=d.bx.frozen 6
  have d:Dx w (w8.setCell ⟨x,6,none⟩ (i64 m)) x r0 h #[i64 ka,str t1,str t2,str t3,str t4,vU,i64 m,i64 0,i64 0,.slice none 0 0] (numL l true).2.1 (numL l true).2.2 F:=by simpa using d.set 6 (i64 (m:Int))
  have k8:Kp (fun k => k = h ∨ k = x) w7 (w8.setCell ⟨x,6,none⟩ (i64 m)):=(k8.mono fun i _ e => .inl e).trans ((Kp.refl _ _).setCell_at _ _) fun i _ e => .inr e
  simp -dsimp [go_sem,y6,z6]
  generalize w8.setCell ⟨x,6,none⟩ (i64 m) = w9 at *
  have hG:=hG.kp k8 fun i hi _ e => by omega
  refine call (d.num (by omega)) ?_
  rintro v w10 ⟨rfl,d,k10⟩
  rw [show numL (numL l true).2.1 (numL l true).2.2 = nm2 l true from rfl] at d ⊢
  have bm10:=numL_le (numL l true).2.1 (numL l true).2.2
  obtain ⟨fl,hfl⟩:∃ m:Nat,(numL (numL l true).2.1 (numL l true).2.2).1 = m:=⟨_,rfl⟩
  have e10:(nm2 l true).1 = fl:=hfl
  rw [hfl] at bm10
  rw [e10]
  have y7:=d.bx.cell 7
  have z7:=d.bx.frozen 7
  have d:Dx w (w10.setCell ⟨x,7,none⟩ (i64 fl)) x r0 h #[i64 ka,str t1,str t2,str t3,str t4,vU,i64 m,i64 fl,i64 0,.slice none 0 0] (nm2 l true).2.1 (nm2 l true).2.2 F:=by simpa using d.set 7 (i64 (fl:Int))
  have k10:Kp (fun k => k = h ∨ k = x) w9 (w10.setCell ⟨x,7,none⟩ (i64 fl)):=(k10.mono fun i _ e => .inl e).trans ((Kp.refl _ _).setCell_at _ _) fun i _ e => .inr e
  simp -dsimp [go_sem,y7,z7]
  generalize w10.setCell ⟨x,7,none⟩ (i64 fl) = w11 at *
  have hG:=hG.kp k10 fun i hi _ e => by omega
  refine call (d.num (by omega)) ?_
  rintro v w12 ⟨rfl,d,k12⟩
  rw [show numL (nm2 l true).2.1 (nm2 l true).2.2 = nm3 l true from rfl] at d ⊢
  have bm12:=numL_le (nm2 l true).2.1 (nm2 l true).2.2
  obtain ⟨dt,hdt⟩:∃ m:Nat,(numL (nm2 l true).2.1 (nm2 l true).2.2).1 = m:=⟨_,rfl⟩
  have e12:(nm3 l true).1 = dt:=hdt
  rw [hdt] at bm12
  rw [e12]
  have y8:=d.bx.cell 8
  have z8:=d.bx.frozen 8
  have d:Dx w (w12.setCell ⟨x,8,none⟩ (i64 dt)) x r0 h #[i64 ka,str t1,str t2,str t3,str t4,vU,i64 m,i64 fl,i64 dt,.slice none 0 0] (nm3 l true).2.1 (nm3 l true).2.2 F:=by simpa using d.set 8 (i64 (dt:Int))
  have k12:Kp (fun k => k = h ∨ k = x) w11 (w12.setCell ⟨x,8,none⟩ (i64 dt)):=(k12.mono fun i _ e => .inl e).trans ((Kp.refl _ _).setCell_at _ _) fun i _ e => .inr e
  simp -dsimp [go_sem,y8,z8]
  generalize w12.setCell ⟨x,8,none⟩ (i64 dt) = w13 at *
  have hG:=hG.kp k12 fun i hi _ e => by omega
  refine call (d.bytes (by omega)) ?_
  rintro v w14 ⟨hBq,d,k14⟩
  have lx4:=bytL_size (nm3 l true).2.1 (nm3 l true).2.2
  obtain ⟨bb,hbb⟩:∃ b,bytL (nm3 l true).2.1 (nm3 l true).2.2 = b:=⟨_,rfl⟩
  rw [hbb] at lx4 d hBq
  obtain ⟨bd,hbd⟩:∃ b,bb.1 = b:=⟨_,rfl⟩
  rw [hbd] at lx4 hBq
  obtain ⟨X,xc,rfl,hoX,hX⟩:=hBq
  have u0:=d.bx.cell 0
  have y9:=d.bx.cell 9
  have z9:=d.bx.frozen 9
  have d:Dx w (w14.setCell ⟨x,9,none⟩ (.slice X bd.length xc)) x r0 h #[i64 ka,str t1,str t2,str t3,str t4,vU,i64 m,i64 fl,i64 dt,.slice X bd.length xc] bb.2.1 bb.2.2 F:=by simpa using d.set 9 (.slice X bd.length xc)
  have ks:Kp (At x) w14 (w14.setCell ⟨x,9,none⟩ (.slice X bd.length xc)):=(Kp.refl _ _).setCell_at _ _
  have hG:=(hG.kp k14 fun i hi _ (e:i = h) => by omega).kp ks fun i hi _ (e:i = x) => by omega
  have hx13:x < w13.heap.size:=by have:=k14.size; have:=k12.size; have:=k10.size; have:=k8.size; omega
  have hoX:=hoX.kp ks fun a ha (e:a.block = x) => by have:=hX a ha; omega
  simp -dsimp [go_sem,y9,z9]
  generalize w14.setCell ⟨x,9,none⟩ (.slice X bd.length xc) = w15 at *
  obtain ⟨U5,u5,rfl,hoU,hU5⟩:=hG
  obtain ⟨C,hC⟩:∃ C:Chg,C = ⟨ka,t1,t2,t3,t4,L,m,fl,dt,bd⟩:=⟨_,rfl⟩
  have hRC:RC w15 (.agg #[i64 ka,str t1,str t2,str t3,str t4,.slice U5 L.length u5,i64 m,i64 fl,i64 dt,.slice X bd.length xc]) C (fun _ => False):=by rw [hC]; exact ⟨U5,u5,X,xc,rfl,hoU.2.1,hoX.2.1,hoU.rd,fun _ _ _ h => h,hoX.rd,fun _ _ _ h => h⟩
  have hCs:CSz C:=by rw [hC]; exact ⟨by simp only; omega,by simp only; omega,by simp only; omega,by simp only; omega,by simp only; omega,by simp only; omega,fun n hn => by have:=hLb n hn; omega⟩
  have hCk:C.kind = ka:=by rw [hC]
  have er:rcRead p = (C,bb.2):=by
   have hy:=tailN_eq (n:=N) hE hm hfl rfl hbb
   have hy2:tailN (min q.1 25) q.2.1 q.2.2 = tailMk (L,l,true) m fl (nm3 l true) bb:=by
    rw [← hn,← hN,hl2,hbad2]
    exact hy
   rw [rcRead_eq ha ht ((tailX_eq hq).trans hy2),hC]
   unfold chMk tailMk
   simp only [← hka,e12,hbd]
  have hokk:rcOk p = (((!bb.2.2 && bb.2.1.isEmpty) && chgOk C) && decide (encC C = p)):=by unfold rcOk; rw [er]
  have y0:=d.bx.cell 0
  have y1:=d.bx.cell 1
  have y2:=d.bx.cell 2
  have y3:=d.bx.cell 3
  have y4:=d.bx.cell 4
  have y5:=d.bx.cell 5
  have y6:=d.bx.cell 6
  have y7:=d.bx.cell 7
  have y8:=d.bx.cell 8
  have y9:=d.bx.cell 9
  simp -dsimp [go_sem,u0,y0,y1,y2,y3,y4,y5,y6,y7,y8,y9]
  refine call (rcEncode_spec _ C w15 _ hRC hCs (by omega)) ?_
  rintro v w16 ⟨hER,k16⟩
  have d:=d.nw k16
  have hRC:=hRC.nw k16
  have x0c:=d.bx.cell 0
  have x1c:=d.bx.cell 1
  have x2c:=d.bx.cell 2
  have x3c:=d.bx.cell 3
  have x4c:=d.bx.cell 4
  have x5c:=d.bx.cell 5
  have x6c:=d.bx.cell 6
  have x7c:=d.bx.cell 7
  have x8c:=d.bx.cell 8
  have x9c:=d.bx.cell 9
  have hbr:=d.br
  unfold zeroC at hbr
  have r0c:=hbr.cell 0
  have r1c:=hbr.cell 1
  have r2c:=hbr.cell 2
  have r3c:=hbr.cell 3
  have r4c:=hbr.cell 4
  have r5c:=hbr.cell 5
  have r6c:=hbr.cell 6
  have r7c:=hbr.cell 7
  have r8c:=hbr.cell 8
  have r9c:=hbr.cell 9
  have r0f:=hbr.frozen 0
  have r1f:=hbr.frozen 1
  have r2f:=hbr.frozen 2
  have r3f:=hbr.frozen 3
  have r4f:=hbr.frozen 4
  have r5f:=hbr.frozen 5
  have r6f:=hbr.frozen 6
  have r7f:=hbr.frozen 7
  have r8f:=hbr.frozen 8
  have r9f:=hbr.frozen 9
  have hset:=set10 w16 r0
  have hnr:=d.new
  have fin:∀ v0 v1 v2 v3 v4 v5 v6 v7 v8 v9,Nw w ((((((((((w16.setCell ⟨r0,0,none⟩ v0).setCell ⟨r0,1,none⟩ v1).setCell ⟨r0,2,none⟩ v2).setCell ⟨r0,3,none⟩ v3).setCell ⟨r0,4,none⟩ v4).setCell ⟨r0,5,none⟩ v5).setCell ⟨r0,6,none⟩ v6).setCell ⟨r0,7,none⟩ v7).setCell ⟨r0,8,none⟩ v8).setCell ⟨r0,9,none⟩ v9):=fun _ _ _ _ _ _ _ _ _ _ => d.on.at_ (hset _ _ _ _ _ _ _ _ _ _) fun k (e:k = r0) => by omega
  rcases hER with ⟨hib,u,rfl,hBq⟩ | ⟨hib,rfl⟩
  ·obtain ⟨Z,zc,rfl,hoZ,hZ⟩:=id hBq
   rw [hib] at hokk
   simp -dsimp [go_sem]
   refine call (refWhole_spec h bb.2.1 bb.2.2 F w16 d.rd) ?_
   rintro v w17 ⟨rfl,rfl⟩
   cases hwh:(!bb.2.2 && bb.2.1.isEmpty) with
   | false =>
    rw [hwh] at hokk
    simp -dsimp [go_sem,r0c,r1c,r2c,r3c,r4c,r5c,r6c,r7c,r8c,r9c,r0f,r1f,r2f,r3f,r4f,r5f,r6f,r7f,r8f,r9f]
    exact ⟨.inr ⟨hokk,rfl⟩,fin _ _ _ _ _ _ _ _ _ _⟩
   | true =>
    rw [hwh] at hokk
    have hcv1:convR Tryz.prog 23 9 (.slice Z (encC C).length zc) w16 = .ok (str (encC C)) w16:=nm_conv hoZ.rd
    have hcv2:convR Tryz.prog 23 9 (.slice A p.length c) w16 = .ok (str p) w16:=nm_conv (hr.nw d.on)
    by_cases hq2:encC C = p
    ·rw [decide_eq_true hq2] at hokk
     have hokk:rcOk p = true:=hokk
     have hqb:(encC C == p) = true:=by simpa using hq2
     generalize encC C = EC at *
     simp -dsimp [go_sem,hcv1,hcv2,hqb,x0c,x1c,x2c,x3c,x4c,x5c,x6c,x7c,x8c,x9c,r0c,r1c,r2c,r3c,r4c,r5c,r6c,r7c,r8c,r9c,r0f,r1f,r2f,r3f,r4f,r5f,r6f,r7f,r8f,r9f]
     refine ⟨.inl ⟨hokk,_,rfl,?_⟩,fin _ _ _ _ _ _ _ _ _ _⟩
     rw [er]
     have hr0h:=d.hr
     have hhx:=d.hx
     have hoU2:=(hoU.nw k16).kp (hset (i64 ka) (str t1) (str t2) (str t3) (str t4) (.slice U5 L.length u5) (i64 m) (i64 fl) (i64 dt) (.slice X bd.length xc)) fun a ha (e:a.block = r0) => by have:=hU5 a ha; omega
     have hoX2:=(hoX.nw k16).kp (hset (i64 ka) (str t1) (str t2) (str t3) (str t4) (.slice U5 L.length u5) (i64 m) (i64 fl) (i64 dt) (.slice X bd.length xc)) fun a ha (e:a.block = r0) => by have:=hX a ha; omega
     show RC _ _ C _
     rw [hC]
     exact ⟨U5,u5,X,xc,rfl,hoU2.2.1,hoX2.2.1,hoU2.rd,fun _ _ _ h => h,hoX2.rd,fun _ _ _ h => h⟩
    ·rw [decide_eq_false hq2] at hokk
     have hokk:rcOk p = false:=hokk
     have hqb:(encC C == p) = false:=by simpa using hq2
     generalize encC C = EC at *
     simp -dsimp [go_sem,hcv1,hcv2,hqb,r0c,r1c,r2c,r3c,r4c,r5c,r6c,r7c,r8c,r9c,r0f,r1f,r2f,r3f,r4f,r5f,r6f,r7f,r8f,r9f]
     exact ⟨.inr ⟨hokk,rfl⟩,fin _ _ _ _ _ _ _ _ _ _⟩
  ·rw [hib,Bool.and_false,Bool.false_and] at hokk
   simp -dsimp [go_sem]
   refine call (refWhole_spec h bb.2.1 bb.2.2 F w16 d.rd) ?_
   rintro v w17 ⟨rfl,rfl⟩
   cases hwh:(!bb.2.2 && bb.2.1.isEmpty) with
   | false =>
    simp -dsimp [go_sem,r0c,r1c,r2c,r3c,r4c,r5c,r6c,r7c,r8c,r9c,r0f,r1f,r2f,r3f,r4f,r5f,r6f,r7f,r8f,r9f]
    exact ⟨.inr ⟨hokk,rfl⟩,fin _ _ _ _ _ _ _ _ _ _⟩
   | true =>
    simp -dsimp [go_sem,r0c,r1c,r2c,r3c,r4c,r5c,r6c,r7c,r8c,r9c,r0f,r1f,r2f,r3f,r4f,r5f,r6f,r7f,r8f,r9f]
    exact ⟨.inr ⟨hokk,rfl⟩,fin _ _ _ _ _ _ _ _ _ _⟩
 | false =>
  have hi1:IntKind.i64.wrap ((i:Int) + 1) = ((i + 1:Nat):Int):=by rw [w64 (by omega) (by omega)]; omega
  obtain ⟨i1,hi1'⟩:∃ i1,i1 = i + 1:=⟨_,rfl⟩
  rw [← hi1'] at hi1
  obtain ⟨k1,hk1e⟩:∃ k1,k = k1 + 1:=⟨k - 1,by omega⟩
  have hE1:uidL k l false L = uidL k1 (numL l false).2.1 (numL l false).2.2 (L ++ [((numL l false).1:Int)]):=by rw [hk1e]; simp [uidL]
  rw [hE1] at hE
  have lx1:=numL_len l false
  have bm:=numL_le l false
  have kd:Nw w7 w7.drew:=(Kp.refl _ _).drew
  have c5:=d.bx.cell 5
  have hxx:=d.bx.lt
  have hxB0:¬ (x = h ∨ B0 ≤ x):=by omega
  have d5:=(d.nw kd).bx.cell 5
  simp -dsimp [go_sem,f7,h1c,hin,hi24,hi24']
  refine drawD (.take 0 (.take 1 (.take 2 (.alt 3 (.alt 4 (.alt 5 (.take 6 (.alt 7 .done .stop)) .stop) .stop) .stop)))) 7 (by kernel_rfl) (fun wz => Kp (fun k => k = h ∨ B0 ≤ k) w7 wz) (Nw.kp kd _) ?_
  simp -dsimp [go_sem,d5]
  refine ⟨fun wz hz => by simp [hz.cell_some c5 hxB0],?_⟩
  refine call ((d.nw kd).num (by omega)) ?_
  rintro v w8 ⟨rfl,d8,k8⟩
  have kA:Kp (fun k => k = h ∨ B0 ≤ k) w7 w8:=(Nw.kp kd _).trans k8 fun i _ e => .inl e
  obtain ⟨m,hm⟩:∃ m:Nat,m = (numL l false).1:=⟨_,rfl⟩
  rw [← hm] at bm hE ⊢
  refine ⟨.inr kA,?_⟩
  simp -dsimp [go_sem]
  have ka1:Nw w8 (w8.alloc (.cells #[i64 m] 3)):=(Kp.refl _ _).alloc _
  have kB:Kp (fun k => k = h ∨ B0 ≤ k) w7 (w8.alloc (.cells #[i64 m] 3)):=kA.nw ka1
  refine ⟨kB,?_⟩
  have hG8:=((hG.nw kd).kp k8 fun i hi _ (e:i = h) => by omega).nw ka1
  have hB8:B0 ≤ (w8.alloc (.cells #[i64 m] 3)).heap.size:=by have:=kB.size; omega
  refine gs_app Tryz.Sint hG8 (Rd.fresh (xs:=[i64 m]) rfl rfl) (m:=1) (by simp) (by simp [Value.oneCell']) (by omega) (by omega) hB8 ?_
  rintro v' w10 hG10 k10
  have kC:Kp (fun k => k = h ∨ B0 ≤ k) w7 w10:=kB.trans k10 fun i _ e => .inr e
  have d10:=(d8.nw ka1).fr k10 (by omega)
  refine ⟨.inr kC,?_⟩
  have y5:=d10.bx.cell 5
  have z5:=d10.bx.frozen 5
  obtain ⟨U6,u6,rfl,hoU6,hU6⟩:=hG10
  have d11:Dx w (w10.setCell ⟨x,5,none⟩ (.slice U6 (L.length + 1) u6)) x r0 h #[i64 ka,str t1,str t2,str t3,str t4,.slice U6 (L.length + 1) u6,i64 0,i64 0,i64 0,.slice none 0 0] (numL l false).2.1 (numL l false).2.2 F:=by simpa using d10.set 5 (.slice U6 (L.length + 1) u6)
  have ks:Kp (At x) w10 (w10.setCell ⟨x,5,none⟩ (.slice U6 (L.length + 1) u6)):=(Kp.refl _ _).setCell_at _ _
  have hoU7:=hoU6.kp ks fun a ha (e:a.block = x) => by have:=hU6 a ha; omega
  have hsz:B0 ≤ (w10.setCell ⟨x,5,none⟩ (.slice U6 (L.length + 1) u6)).heap.size:=by have:=kC.size; have:=ks.size; omega
  simp -dsimp [go_sem,y5,z5,f7,hi1]
  refine ⟨⟨i1,k1,L ++ [(m:Int)],_,_,_,rfl,by omega,d11,⟨U6,u6,by simp,by simpa using hoU7,hU6⟩,hE,by simp; omega,fun z hz => ?_,by omega,hsz⟩,by simp [intOf]; omega⟩
  rcases List.mem_append.1 hz with hz | hz
  ·exact hLb z hz
  ·rw [List.mem_singleton.1 hz]
   omega
end Go.Proofs.YtellahclbhfdiaaGreatDoor
