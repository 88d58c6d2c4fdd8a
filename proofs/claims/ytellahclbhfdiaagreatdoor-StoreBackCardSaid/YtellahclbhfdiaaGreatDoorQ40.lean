/-
  StoreBytes and StoreBack walked. By the session itself.
-/
import Derived.Test.YtellahclbhfdiaaGreatDoorQ39
import Derived.Test.YtellahclbhfdiaaGreatDoorQ36
namespace Go.Proofs.YtellahclbhfdiaaGreatDoor
set_option linter.unusedSimpArgs false
set_option linter.unusedVariables false
set_option maxRecDepth 100000
set_option maxHeartbeats 2000000
open Go.Vc Go.RowKit
def encCE (c:Chg):List UInt8 × Nat:=if chgOk c = true then (encC c,0) else ([],1)
theorem EncCR.all {v:Value} {w:World} {c:Chg} {B:Nat} (h:EncCR v w c B):∃ u,v = .tuple #[u,i64 (encCE c).2] ∧ Bs w u (encCE c).1 B:=by
 rcases h with ⟨hi,u,rfl,hB⟩ | ⟨hi,rfl⟩
 ·exact ⟨u,by simp [encCE,hi],by simpa [encCE,hi] using hB⟩
 ·exact ⟨.slice none 0 0,by simp [encCE,hi],by simpa [encCE,hi] using Bs.nil w B⟩
def decCE (p:List UInt8):Chg × Nat:=if chDecOk p = true then ((chRead p).1,0) else (Chg.zero,3)
theorem RC.zero (w:World) (S:Nat → Prop):RC w (.agg zeroC) Chg.zero S:=⟨none,0,none,0,rfl,Nat.le_refl _,Nat.le_refl _,Rd.nil _ _,fun _ _ h => absurd rfl h,Rd.nil _ _,fun _ _ h => absurd rfl h⟩
theorem RC.open_ {w:World} {v:Value} {c:Chg} {S:Nat → Prop} (h:RC w v c S):∃ A ca B cb,v = .agg (chV c A ca B cb):=by
 obtain ⟨A,ca,B,cb,rfl,_⟩:=h
 exact ⟨A,ca,B,cb,rfl⟩
theorem RC.any {w:World} {v:Value} {c:Chg} {S:Nat → Prop} (h:RC w v c S):RC w v c (fun _ => False):=by
 obtain ⟨A,ca,B,cb,rfl,h1,h2,h3,_,h4,_⟩:=h
 exact ⟨A,ca,B,cb,rfl,h1,h2,h3,fun _ _ _ h => h,h4,fun _ _ _ h => h⟩
theorem ChR3.all {v:Value} {w:World} {p:List UInt8} {B:Nat} (h:ChR3 v w (chDecOk p) (chRead p).1 B):∃ u,v = .tuple #[u,i64 (decCE p).2] ∧ RC w u (decCE p).1 (fun _ => False):=by
 rcases h with ⟨hi,u,rfl,hB⟩ | ⟨hi,rfl⟩
 ·exact ⟨u,by simp [decCE,hi],by simpa [decCE,hi] using hB.any⟩
 ·exact ⟨.agg zeroC,by simp [decCE,hi],by simpa [decCE,hi] using RC.zero w _⟩
theorem ChR2.all {v:Value} {w:World} {p:List UInt8} (h:ChR2 v w (rcOk p) (rcRead p).1):∃ u,v = .tuple #[u,i64 (decCE p).2] ∧ RC w u (decCE p).1 (fun _ => False):=by
 obtain ⟨e1,e2⟩:=rc_ok p
 rw [e1] at h
 rcases h with ⟨hi,u,rfl,hB⟩ | ⟨hi,rfl⟩
 ·rw [e2 hi] at hB
  exact ⟨u,by simp [decCE,hi],by simpa [decCE,hi] using hB⟩
 ·exact ⟨.agg zeroC,by simp [decCE,hi],by simpa [decCE,hi] using RC.zero w _⟩
theorem decCE_sz (p:List UInt8):CSz (decCE p).1 ∧ -9223372036854775808 ≤ (decCE p).1.kind ∧ (decCE p).1.kind ≤ 9223372036854775807:=by
 unfold decCE
 split
 ·rename_i h
  have ok:=chgOk_ok (chDec_of h).2
  exact ⟨ok.sz,by have:=ok.kind; simp only; omega,by have:=ok.kind; simp only; omega⟩
 ·refine ⟨⟨?_,?_,?_,?_,?_,?_,?_⟩,?_,?_⟩ <;> simp [Chg.zero]
theorem stbytes_law (q:CQ) (p:List UInt8) (A:Option Addr) (c:Nat) (w:World) (h:ChgG w q) (hr:Rd w A (p.map u8)) (hc:p.length ≤ c) :
  Cal Tryz.prog 3 #[.agg (ccells q).toArray,.slice A p.length c] w fun v' w' => v' = .bool true ∧ Nw w w':=by
 have hs:=h.sz
 have hRC:=h.rc
 have hk:I64 q.1.kind:=by
  obtain ⟨_,_,_,_,_,_,_,_,hk,_⟩:=h
  exact hk
 unfold I64 at hk
 obtain ⟨C,hC⟩:∃ C,C = q.1:=⟨_,rfl⟩
 rw [← hC] at hs hRC hk
 obtain ⟨D1,e1,D2,e2,hD⟩:=hs.2
 rw [hD] at hs hRC ⊢
 refine enter Tryz.mixed Tryz.func3 rfl (by kernel_rfl) ?_
 simp -dsimp [go_sem]
 have k0:Nw w (w.alloc (.cells (chV C D1 e1 D2 e2) 25)):=(Kp.refl _ _).alloc _
 have hy:=Blk.new w 25 (chV C D1 e1 D2 e2)
 obtain ⟨y,hy'⟩:∃ y,y = w.heap.size:=⟨_,rfl⟩
 rw [← hy'] at hy ⊢
 generalize w.alloc (.cells (chV C D1 e1 D2 e2) 25) = wa at *
 refine call (heavy14_spec ⟨_,_,_,_,rfl⟩ hs.1 wa) ?_
 rintro v w1 ⟨rfl,k1⟩
 have n1:=k0.nw k1
 have hy1:=hy.nw k1
 by_cases hh:4000 < heavyN C
 ·have hh':(4000:Int) < (heavyN C:Int):=by omega
  simp -dsimp [go_sem,hh,hh']
  exact n1
 have hh':¬ (4000:Int) < (heavyN C:Int):=by omega
 by_cases hp4:4000 < p.length
 ·have hp4':(4000:Int) < (p.length:Int):=by omega
  simp -dsimp [go_sem,hh,hh',hp4,hp4']
  exact n1
 have hp4':¬ (4000:Int) < (p.length:Int):=by omega
 have y0:=(hy1).cell 0
 have y1:=(hy1).cell 1
 have y2:=(hy1).cell 2
 have y3:=(hy1).cell 3
 have y4:=(hy1).cell 4
 have y5:=(hy1).cell 5
 have y6:=(hy1).cell 6
 have y7:=(hy1).cell 7
 have y8:=(hy1).cell 8
 have y9:=(hy1).cell 9
 simp -dsimp [go_sem,hh,hh',hp4,hp4',y0,y1,y2,y3,y4,y5,y6,y7,y8,y9]
 clear y0 y1 y2 y3 y4 y5 y6 y7 y8 y9
 refine call (sencode_spec _ C w1 (hRC.nw n1) hs.1) ?_
 rintro v w2 ⟨hE,k2⟩
 obtain ⟨u2,rfl,hB2⟩:=hE.all
 clear hE
 have hy2:=hy1.nw k2
 have n2:=n1.nw k2
 have y0:=(hy2).cell 0
 have y1:=(hy2).cell 1
 have y2:=(hy2).cell 2
 have y3:=(hy2).cell 3
 have y4:=(hy2).cell 4
 have y5:=(hy2).cell 5
 have y6:=(hy2).cell 6
 have y7:=(hy2).cell 7
 have y8:=(hy2).cell 8
 have y9:=(hy2).cell 9
 simp -dsimp [go_sem,y0,y1,y2,y3,y4,y5,y6,y7,y8,y9]
 clear y0 y1 y2 y3 y4 y5 y6 y7 y8 y9
 refine call (rcEncode_spec _ C w2 _ (hRC.nw n2) hs.1 hk) ?_
 rintro v w3 ⟨hE,k3⟩
 obtain ⟨u3,rfl,hB3⟩:=hE.all
 clear hE
 have n3:=n2.nw k3
 simp -dsimp [go_sem]
 refine bs_fresh (m:=p) rfl rfl (hr.nw n3) (by omega) ?_
 intro v5 w4 hB4 k4
 obtain ⟨X4,d4,rfl,ho4,_⟩:=id hB4
 have n4:=n3.nw k4
 simp -dsimp [go_sem]
 refine call (chDecode_spec p X4 d4 w4 ho4.rd (by omega)) ?_
 rintro v w5 ⟨hD5,k5⟩
 obtain ⟨u5,rfl,hR5⟩:=hD5.all
 clear hD5
 obtain ⟨D5,hD5⟩:∃ D,D = decCE p:=⟨_,rfl⟩
 have hsz5:=decCE_sz p
 rw [← hD5] at hR5 hsz5 ⊢
 have n5:=n4.nw k5
 obtain ⟨A5,a5,B5,b5,rfl⟩:=hR5.open_
 simp -dsimp [go_sem]
 have kax:Nw w5 (w5.alloc (.cells #[i64 D5.1.kind,str D5.1.user,str D5.1.pass,str D5.1.box,str D5.1.to,.slice A5 D5.1.uids.length a5,i64 D5.1.mode,i64 D5.1.flags,i64 D5.1.date,.slice B5 D5.1.body.length b5] 25)):=(Kp.refl _ _).alloc _
 have hx:=Blk.new w5 25 #[i64 D5.1.kind,str D5.1.user,str D5.1.pass,str D5.1.box,str D5.1.to,.slice A5 D5.1.uids.length a5,i64 D5.1.mode,i64 D5.1.flags,i64 D5.1.date,.slice B5 D5.1.body.length b5]
 obtain ⟨x,hx'⟩:∃ y,y = w5.heap.size:=⟨_,rfl⟩
 rw [← hx'] at hx ⊢
 generalize w5.alloc (.cells #[i64 D5.1.kind,str D5.1.user,str D5.1.pass,str D5.1.box,str D5.1.to,.slice A5 D5.1.uids.length a5,i64 D5.1.mode,i64 D5.1.flags,i64 D5.1.date,.slice B5 D5.1.body.length b5] 25) = w6 at *
 have n6:=n5.nw kax
 have hR6:=hR5.nw kax
 refine call (rcDecode_spec p A c w6 (hr.nw n6) hc (by omega)) ?_
 rintro v w7 ⟨hD7,k7⟩
 obtain ⟨u7,rfl,hR7⟩:=hD7.all
 clear hD7
 rw [← hD5] at hR7 ⊢
 have n7:=n6.nw k7
 obtain ⟨A7,a7,B7,b7,rfl⟩:=hR7.open_
 simp -dsimp [go_sem]
 have kaz:Nw w7 (w7.alloc (.cells #[i64 D5.1.kind,str D5.1.user,str D5.1.pass,str D5.1.box,str D5.1.to,.slice A7 D5.1.uids.length a7,i64 D5.1.mode,i64 D5.1.flags,i64 D5.1.date,.slice B7 D5.1.body.length b7] 25)):=(Kp.refl _ _).alloc _
 have hz:=Blk.new w7 25 #[i64 D5.1.kind,str D5.1.user,str D5.1.pass,str D5.1.box,str D5.1.to,.slice A7 D5.1.uids.length a7,i64 D5.1.mode,i64 D5.1.flags,i64 D5.1.date,.slice B7 D5.1.body.length b7]
 obtain ⟨z,hz'⟩:∃ y,y = w7.heap.size:=⟨_,rfl⟩
 rw [← hz'] at hz ⊢
 generalize w7.alloc (.cells #[i64 D5.1.kind,str D5.1.user,str D5.1.pass,str D5.1.box,str D5.1.to,.slice A7 D5.1.uids.length a7,i64 D5.1.mode,i64 D5.1.flags,i64 D5.1.date,.slice B7 D5.1.body.length b7] 25) = w8 at *
 have n8:=n7.nw kaz
 have hR8:=hR7.nw kaz
 have hx8:=(hx.nw k7).nw kaz
 have hR6:=(hR6.nw k7).nw kaz
 have y0:=(hx8).cell 0
 have y1:=(hx8).cell 1
 have y2:=(hx8).cell 2
 have y3:=(hx8).cell 3
 have y4:=(hx8).cell 4
 have y5:=(hx8).cell 5
 have y6:=(hx8).cell 6
 have y7:=(hx8).cell 7
 have y8:=(hx8).cell 8
 have y9:=(hx8).cell 9
 simp -dsimp [go_sem,y0,y1,y2,y3,y4,y5,y6,y7,y8,y9]
 clear y0 y1 y2 y3 y4 y5 y6 y7 y8 y9
 refine call (rcEncode_spec _ D5.1 w8 _ hR6 hsz5.1 hsz5.2) ?_
 rintro v w9 ⟨hE,k9⟩
 obtain ⟨u9,rfl,hB9⟩:=hE.all
 clear hE
 have n9:=n8.nw k9
 have hz9:=hz.nw k9
 have y0:=(hz9).cell 0
 have y1:=(hz9).cell 1
 have y2:=(hz9).cell 2
 have y3:=(hz9).cell 3
 have y4:=(hz9).cell 4
 have y5:=(hz9).cell 5
 have y6:=(hz9).cell 6
 have y7:=(hz9).cell 7
 have y8:=(hz9).cell 8
 have y9:=(hz9).cell 9
 simp -dsimp [go_sem,y0,y1,y2,y3,y4,y5,y6,y7,y8,y9]
 clear y0 y1 y2 y3 y4 y5 y6 y7 y8 y9
 refine call (rcEncode_spec _ D5.1 w9 _ (hR8.nw k9) hsz5.1 hsz5.2) ?_
 rintro v w10 ⟨hE,k10⟩
 obtain ⟨u10,rfl,hB10⟩:=hE.all
 clear hE
 have n10:=n9.nw k10
 obtain ⟨X2,d2,rfl,ho2,_⟩:=hB2
 obtain ⟨X3,d3,rfl,ho3,_⟩:=hB3
 obtain ⟨X9,d9,rfl,ho9,_⟩:=hB9
 obtain ⟨X10,d10,rfl,ho10,_⟩:=hB10
 have k310:Nw w3 w10:=(((((((k4.nw k5).nw kax).nw k7).nw kaz).nw k9).nw k10))
 have cv2:=nm_conv (c:=d2) ((ho2.rd.nw k3).nw k310)
 have cv3:=nm_conv (c:=d3) (ho3.rd.nw k310)
 have cv9:=nm_conv (c:=d9) (ho9.rd.nw k10)
 have cv10:=nm_conv (c:=d10) ho10.rd
 generalize encCE C = E1 at *
 generalize encCE D5.1 = E2 at *
 have q1:((E1.2:Int) == (E1.2:Int)) = true:=by simp
 have q2:((D5.2:Int) == (D5.2:Int)) = true:=by simp
 simp -dsimp [go_sem,cv2,cv3,cv9,cv10,q1,q2]
 refine call (stknown_spec w10) ?_
 rintro v w11 ⟨rfl,k11⟩
 simp -dsimp [go_sem]
 exact n10.nw k11
theorem mask_le (n:Int):∃ t:Nat,bits .and .i64 n 65535 = (t:Int) ∧ t ≤ 65535:=by
 have h:(BitVec.ofInt 64 n &&& BitVec.ofInt 64 65535).toNat ≤ 65535:=by
  rw [BitVec.toNat_and]
  exact Nat.le_trans Nat.and_le_right (by decide)
 refine ⟨(BitVec.ofInt 64 n &&& BitVec.ofInt 64 65535).toNat,?_,h⟩
 show IntKind.i64.wrap ((BitVec.ofInt 64 n &&& BitVec.ofInt 64 65535).toNat:Nat) = _
 rw [w64 (by omega) (by omega)]
theorem stback_law (q:CQ) (cut:Int) (mo:List UInt8) (A:Option Addr) (c:Nat) (w:World) (h:ChgG w q) (hcut:-9223372036854775808 ≤ cut ∧ cut ≤ 9223372036854775807) (hr:Rd w A (mo.map u8)) :
  Cal Tryz.prog 4 #[.agg (ccells q).toArray,i64 cut,.slice A mo.length c] w fun v' w' => v' = .bool true ∧ Nw w w':=by
 have hs:=h.sz
 have hRC:=h.rc
 have hk:I64 q.1.kind:=by
  obtain ⟨_,_,_,_,_,_,_,_,hk,_⟩:=h
  exact hk
 unfold I64 at hk
 obtain ⟨C,hC⟩:∃ C,C = q.1:=⟨_,rfl⟩
 rw [← hC] at hs hRC hk
 obtain ⟨D1,e1,D2,e2,hD⟩:=hs.2
 rw [hD] at hs hRC ⊢
 obtain ⟨z1,z2,z3,z4,z5,z6,_⟩:=id hs.1
 refine enter Tryz.mixed Tryz.func4 rfl (by kernel_rfl) ?_
 simp -dsimp [go_sem]
 have k0:Nw w (w.alloc (.cells (chV C D1 e1 D2 e2) 25)):=(Kp.refl _ _).alloc _
 have hy:=Blk.new w 25 (chV C D1 e1 D2 e2)
 obtain ⟨y,hy'⟩:∃ y,y = w.heap.size:=⟨_,rfl⟩
 rw [← hy'] at hy ⊢
 generalize w.alloc (.cells (chV C D1 e1 D2 e2) 25) = wa at *
 refine call (heavy14_spec ⟨_,_,_,_,rfl⟩ hs.1 wa) ?_
 rintro v w1 ⟨rfl,k1⟩
 have n1:=k0.nw k1
 have hy1:=hy.nw k1
 by_cases hh:4000 < heavyN C
 ·have hh':(4000:Int) < (heavyN C:Int):=by omega
  simp -dsimp [go_sem,hh,hh']
  exact n1
 have hh':¬ (4000:Int) < (heavyN C:Int):=by omega
 have y0:=(hy1).cell 0
 have y1:=(hy1).cell 1
 have y2:=(hy1).cell 2
 have y3:=(hy1).cell 3
 have y4:=(hy1).cell 4
 have y5:=(hy1).cell 5
 have y6:=(hy1).cell 6
 have y7:=(hy1).cell 7
 have y8:=(hy1).cell 8
 have y9:=(hy1).cell 9
 simp -dsimp [go_sem,hh,hh',y0,y1,y2,y3,y4,y5,y6,y7,y8,y9]
 clear y0 y1 y2 y3 y4 y5 y6 y7 y8 y9
 refine call (rcIs_spec _ C w1 _ (hRC.nw n1) (by omega) (by omega) (by omega) (by omega) (by omega) (by omega)) ?_
 rintro v w2 ⟨rfl,k2⟩
 have n2:=n1.nw k2
 have hy2:=hy1.nw k2
 cases hok:chgOk C with
 | false =>
  simp -dsimp [go_sem]
  exact n2
 | true =>
 by_cases hm0:mo.length < 1
 ·have hm0':(mo.length:Int) < 1:=by omega
  simp -dsimp [go_sem,hm0,hm0']
  exact n2
 have hm0':¬ (mo.length:Int) < 1:=by omega
 by_cases hm1:100 < mo.length
 ·have hm1':(100:Int) < (mo.length:Int):=by omega
  simp -dsimp [go_sem,hm0,hm0',hm1,hm1']
  exact n2
 have hm1':¬ (100:Int) < (mo.length:Int):=by omega
 have y0:=(hy2).cell 0
 have y1:=(hy2).cell 1
 have y2:=(hy2).cell 2
 have y3:=(hy2).cell 3
 have y4:=(hy2).cell 4
 have y5:=(hy2).cell 5
 have y6:=(hy2).cell 6
 have y7:=(hy2).cell 7
 have y8:=(hy2).cell 8
 have y9:=(hy2).cell 9
 simp -dsimp [go_sem,hm0,hm0',hm1,hm1',y0,y1,y2,y3,y4,y5,y6,y7,y8,y9]
 clear y0 y1 y2 y3 y4 y5 y6 y7 y8 y9
 refine call (sencode_spec _ C w2 (hRC.nw n2) hs.1) ?_
 rintro v w3 ⟨hE,k3⟩
 rcases hE with ⟨_,u3,rfl,hB3⟩ | ⟨hno,_⟩
 ·have n3:=n2.nw k3
  obtain ⟨X3,d3,rfl,ho3,_⟩:=id hB3
  have hO:=chgOk_ok hok
  have hel:=encC_len hO
  obtain ⟨hde,hdo⟩:=chDec_enc hok
  have hcutD:=@chDec_cut C hok
  have hmoreD:=@chDec_more C hok mo (fun e => by rw [e] at hm0; simp at hm0)
  have hpos:0 < (encC C).length:=by
   cases hq:encC C with
   | nil => rw [hq] at hdo; exact absurd hdo (by decide +kernel)
   | cons a l => simp
  have hpos':((encC C).length == 0) = false:=beq_eq_false_iff_ne.2 (by omega)
  have hpos2:(((encC C).length:Int) == 0) = false:=beq_eq_false_iff_ne.2 (by omega)
  obtain ⟨pb,hpb⟩:∃ pb,pb = encC C:=⟨_,rfl⟩
  rw [← hpb] at hB3 ho3 hel hde hdo hcutD hmoreD hpos hpos' hpos2 ⊢
  simp -dsimp [go_sem,hpos',hpos2]
  have hcal:=chDecode_spec pb X3 d3 w3 ho3.rd (by omega)
  rw [hdo,hde] at hcal
  refine call hcal ?_
  rintro v w4 ⟨hD,k4⟩
  rcases hD with ⟨_,u4,rfl,hR4⟩ | ⟨hno,_⟩
  ·have hR4:=hR4.any
   obtain ⟨A4,a4,B4,b4,rfl⟩:=hR4.open_
   have n4:=n3.nw k4
   simp -dsimp [go_sem]
   have kax:Nw w4 (w4.alloc (.cells #[i64 C.kind,str C.user,str C.pass,str C.box,str C.to,.slice A4 C.uids.length a4,i64 C.mode,i64 C.flags,i64 C.date,.slice B4 C.body.length b4] 25)):=(Kp.refl _ _).alloc _
   have hx:=Blk.new w4 25 #[i64 C.kind,str C.user,str C.pass,str C.box,str C.to,.slice A4 C.uids.length a4,i64 C.mode,i64 C.flags,i64 C.date,.slice B4 C.body.length b4]
   obtain ⟨x,hx'⟩:∃ y,y = w4.heap.size:=⟨_,rfl⟩
   rw [← hx'] at hx ⊢
   generalize w4.alloc (.cells #[i64 C.kind,str C.user,str C.pass,str C.box,str C.to,.slice A4 C.uids.length a4,i64 C.mode,i64 C.flags,i64 C.date,.slice B4 C.body.length b4] 25) = w5 at *
   have n5:=n4.nw kax
   have hR5:=hR4.nw kax
   refine call (rcEncode_spec _ C w5 _ hR5 hs.1 hk) ?_
   rintro v w6 ⟨hE,k6⟩
   rcases hE with ⟨_,u6,rfl,hB6⟩ | ⟨hno,_⟩
   ·rw [← hpb] at hB6
    have n6:=n5.nw k6
    obtain ⟨tm,htm,htl⟩:=mask_le cut
    have hne:pb ≠ []:=fun e => by rw [e] at hpos; simp at hpos
    have hmod:(tm:Int).tmod (pb.length:Int) = ((tm % pb.length:Nat):Int):=rfl
    obtain ⟨k,hk'⟩:∃ k,k = tm % pb.length:=⟨_,rfl⟩
    have hkl:k < pb.length:=by rw [hk']; exact Nat.mod_lt _ hpos
    rw [← hk'] at hmod
    have hkl2:k ≤ pb.length:=by omega
    have hkd:k ≤ d3:=Nat.le_trans hkl2 ho3.2.1
    have hcd:=hcutD hkl
    have k36:Nw w3 w6:=(k4.nw kax).nw k6
    simp -dsimp [go_sem,htm,hne,hmod,hkl2,hkd]
    have hr3:Rd w6 X3 ((pb.take k).map u8):=by
     rw [List.map_take]
     exact (ho3.rd.nw k36).take k
    have htk:(pb.take k).length = k:=by rw [List.length_take]; omega
    have hcal:=chDecode_spec (pb.take k) X3 d3 w6 hr3 (by omega)
    rw [hcd,htk] at hcal
    refine call hcal ?_
    rintro v w7 ⟨hD,k7⟩
    rcases hD with ⟨hno,_⟩ | ⟨_,rfl⟩
    ·cases hno
    ·have n7:=n6.nw k7
     unfold zeroC
     simp -dsimp [go_sem]
     have k8:Nw w7 (w7.alloc (.cells zeroC 25)):=(Kp.refl _ _).alloc _
     unfold zeroC at k8
     have s8:(w7.alloc (.cells #[i64 0,.string ⟨#[]⟩,.string ⟨#[]⟩,.string ⟨#[]⟩,.string ⟨#[]⟩,.slice none 0 0,i64 0,i64 0,i64 0,.slice none 0 0] 25)).heap.size = w7.heap.size + 1:=by simp
     rw [← s8]
     generalize w7.alloc (.cells #[i64 0,.string ⟨#[]⟩,.string ⟨#[]⟩,.string ⟨#[]⟩,.string ⟨#[]⟩,.slice none 0 0,i64 0,i64 0,i64 0,.slice none 0 0] 25) = w8 at *
     have k38:=(k36.nw k7).nw k8
     have n8:=n7.nw k8
     refine bs_fresh (m:=pb) rfl rfl (ho3.rd.nw k38) (by omega) ?_
     intro v9 w9 hB9 k9
     have n9:=n8.nw k9
     obtain ⟨X9,d9,rfl,ho9,hX9⟩:=id hB9
     simp -dsimp [go_sem]
     refine bs_app hB9 (hr.nw n9) (by omega) k9.size ?_
     intro v10 w10 hB10 k10
     obtain ⟨Z,hZ⟩:∃ Z,Z = pb ++ mo:=⟨_,rfl⟩
     have hZl:Z.length ≤ 1000000:=by rw [hZ,List.length_append]; omega
     rw [← hZ] at hB10 hmoreD
     obtain ⟨X10,d10,rfl,ho10,hX10⟩:=id hB10
     have n10:Nw w w10:=n9.at_ k10 fun i (e:w8.heap.size ≤ i) => by have:=n8.size; omega
     have k710:Kp (Fr w8.heap.size) w6 w10:=(Nw.kp ((k7.nw k8).nw k9) _).trans k10 fun _ _ e => e
     simp -dsimp [go_sem]
     have hcal:=chDecode_spec Z X10 d10 w10 ho10.rd hZl
     rw [hmoreD] at hcal
     refine call hcal ?_
     rintro v w11 ⟨hD,k11⟩
     rcases hD with ⟨hno,_⟩ | ⟨_,rfl⟩
     ·cases hno
     ·have n11:=n10.nw k11
      unfold zeroC
      obtain ⟨X6,d6,rfl,ho6,hX6⟩:=hB6
      have hs78:w6.heap.size ≤ w8.heap.size:=by have:=k7.size; have:=k8.size; omega
      have cv6:∀ W,Nw w11 W → convR Tryz.prog 23 9 (.slice X6 pb.length d6) W = .ok (str pb) W:=fun W k => nm_conv ((((ho6.rd.kp k710 fun a ha _ (e:w8.heap.size ≤ a.block) => by have:=ho6.lt a ha; omega)).nw k11).nw k)
      have cv3:∀ W,Nw w11 W → convR Tryz.prog 23 9 (.slice X3 pb.length d3) W = .ok (str pb) W:=fun W k => nm_conv ((((ho3.rd.nw k36).kp k710 fun a ha _ (e:w8.heap.size ≤ a.block) => by have:=ho3.lt a ha; have:=k36.size; omega).nw k11).nw k)
      simp -dsimp [go_sem]
      have k12:Nw w11 (w11.alloc (.cells zeroC 25)):=(Kp.refl _ _).alloc _
      unfold zeroC at k12
      generalize w11.alloc (.cells #[i64 0,.string ⟨#[]⟩,.string ⟨#[]⟩,.string ⟨#[]⟩,.string ⟨#[]⟩,.slice none 0 0,i64 0,i64 0,i64 0,.slice none 0 0] 25) = w12 at *
      have c6:=cv6 w12 k12
      have c3:=cv3 w12 k12
      simp -dsimp [go_sem,c6,c3]
      refine call (stknown_spec w12) ?_
      rintro v w13 ⟨rfl,k13⟩
      simp -dsimp [go_sem]
      exact (n11.nw k12).nw k13
   ·rw [hok] at hno; cases hno
  ·cases hno
 ·rw [hok] at hno; cases hno
end Go.Proofs.YtellahclbhfdiaaGreatDoor
