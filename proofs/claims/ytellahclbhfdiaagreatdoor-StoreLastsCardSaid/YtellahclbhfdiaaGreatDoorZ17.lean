/-
  The check sum: octet.Sum and the reference's walked; a byte that is another one has another sum. By the session itself. The small functions of frame and of its reference: four bytes and back. By the session itself. frame.headOf, Encode walked. By the session itself. bytes.Equal, frame.Decode walked. By the session itself. frame.One, Scan walked. By the session itself.
-/
import Derived.Test.YtellahclbhfdiaaGreatDoorZ04
import Derived.Laws.BitsAllLaws
import Derived.Test.YtellahclbhfdiaaGreatDoorZ14
import Derived.MapKept
namespace Go.Proofs.YtellahclbhfdiaaGreatDoor
set_option linter.unusedSimpArgs false
set_option linter.unusedVariables false
set_option maxRecDepth 100000
open Go.Vc Go.RowKit
def crcBit (v:Nat):Nat:=if v % 2 = 1 then (v / 2) ^^^ 3988292384 else v / 2
def crcBits:Nat → Nat → Nat
 | 0,v => v
 | n + 1,v => crcBits n (crcBit v)
def crcByte (v:Nat) (c:UInt8):Nat:=crcBits 8 (v ^^^ c.toNat)
def crcRow (v:Nat) (l:List UInt8):Nat:=l.foldl crcByte v
/-- The check sum of bytes. -/
def sumL (l:List UInt8):Nat:=4294967295 - crcRow 4294967295 l
theorem crcBit_lt {v:Nat} (h:v < 4294967296):crcBit v < 4294967296:=by
 unfold crcBit
 split
 ·exact Nat.xor_lt_two_pow (n:=32) (by omega) (by omega)
 ·omega
theorem crcBits_succ (n v:Nat):crcBits (n + 1) v = crcBit (crcBits n v):=by
 induction n generalizing v with
 | zero => rfl
 | succ n ih => exact ih (crcBit v)
theorem crcRow_append (v:Nat) (a b:List UInt8):crcRow v (a ++ b) = crcRow (crcRow v a) b:=List.foldl_append ..
theorem xor_ones {v:Nat} (h:v < 4294967296):4294967295 ^^^ v = 4294967295 - v:=by
 have h1:(BitVec.allOnes 32 ^^^ BitVec.ofNat 32 v).toNat = 2 ^ 32 - 1 - (BitVec.ofNat 32 v).toNat:=by rw [BitVec.allOnes_xor,BitVec.toNat_not]
 rw [BitVec.toNat_xor,BitVec.toNat_allOnes,BitVec.toNat_ofNat,Nat.mod_eq_of_lt (by omega)] at h1
 exact h1
theorem crc_step (v:Nat) (h:v < 4294967296):bits .xor .u32 ((v:Int) / 2) (bits .and .u32 3988292384 (IntKind.u32.wrap (-bits .and .u32 (v:Int) 1))) = (crcBit v:Int):=by
 have e1:bits .and .u32 (v:Int) 1 = ((v % 2:Nat):Int):=by
  rw [show (1:Int) = ((1:Nat):Int) from rfl,u32_and_nat v 1 h (by omega),nat_mask1]
 have e0:(v:Int) / 2 = ((v / 2:Nat):Int):=by omega
 rw [e1,e0]
 unfold crcBit
 by_cases hb:v % 2 = 1
 ·rw [hb,if_pos rfl]
  have e2:IntKind.u32.wrap (-((1:Nat):Int)) = ((4294967295:Nat):Int):=by rw [IntKind.wrap_u32']; omega
  rw [e2,show (3988292384:Int) = ((3988292384:Nat):Int) from rfl,u32_and_nat _ _ (by omega) (by omega),show (3988292384 &&& 4294967295:Nat) = 3988292384 by decide,u32_xor_nat _ _ (by omega) (by omega)]
 ·have hb:v % 2 = 0:=by omega
  rw [hb,if_neg (by omega)]
  have e2:IntKind.u32.wrap (-((0:Nat):Int)) = ((0:Nat):Int):=by rw [IntKind.wrap_u32']; omega
  rw [e2,show (3988292384:Int) = ((3988292384:Nat):Int) from rfl,u32_and_nat _ _ (by omega) (by omega),Nat.and_zero,u32_xor_nat _ _ (by omega) (by omega),Nat.xor_zero]
theorem sum_spec (ps:List (List UInt8)) (A:Option Addr) (c:Nat) (w:World) (S:Nat → Prop) (hr:Brs w A ps S) (hl:ps.length ≤ 140737488355328) (hl2:∀ p ∈ ps,p.length ≤ 140737488355328) :
  Cal Tryz.prog 155 #[.slice A ps.length c] w fun v w' => v = .int .u32 (sumL ps.flatten:Nat) ∧ w = w':=by
 obtain ⟨vs,hvl,hrd,hoA,hi⟩:=hr
 refine enter Tryz.mixed Tryz.func155 rfl (by kernel_rfl) ?_
 simp -dsimp [go_sem]
 refine loop [3,5,7,10,11,12,13,14,15,16,17,18,19,20,21,22,23,24,25,26,27,28,29,30,31,32,33,34,35] (by kernel_rfl)
  (fun f w' => Box2 (fun a b w' => ∃ k v:Nat,k ≤ ps.length ∧ a = i64 k ∧ b = .int .u32 v ∧ v < 4294967296 ∧ v = crcRow 4294967295 (ps.take k).flatten ∧ w = w') (f 10) (f 3) w') (fun f _ => ps.length - (intOf (f 10)).toNat) ⟨0,4294967295,by simp [upd,crcRow]⟩ ?_
 rintro f w' ⟨k,v,hk,f10,f3,hv,hv2,rfl⟩
 simp -dsimp [go_sem,f10,f3]
 refine cond_d (fun hlt => ?_) (fun hlt => ?_)
 ·have hlt:k < ps.length:=by omega
  obtain ⟨B,d,hvk,hrB,hoB,hd⟩:=hi k hlt
  obtain ⟨b,o,rfl,hcell⟩:=hrd k _ hvk
  have hpl:=hl2 _ (List.getElem_mem hlt)
  simp -dsimp [go_sem,f10,f3,hlt,hcell]
  refine loop [3,7,16,17,18,19,20,21,22,23,24,25,26,27,28,29,30,31,32,33,34] (by kernel_rfl)
   (fun f2 w' => Box2 (fun a b w' => ∃ j u:Nat,j ≤ ps[k].length ∧ a = i64 j ∧ b = .int .u32 u ∧ u < 4294967296 ∧ u = crcRow v (ps[k].take j) ∧ w = w') (f2 16) (f2 3) w') (fun f2 _ => ps[k].length - (intOf (f2 16)).toNat) ⟨0,v,by simp [upd,crcRow,f3,hv,mix]⟩ ?_
  rintro f2 w' ⟨j,u,hj,f16,f23,hu,hu2,rfl⟩
  simp -dsimp [go_sem,f16,f23]
  refine cond_d (fun hjl => ?_) (fun hjl => ?_)
  ·have hjl:j < ps[k].length:=by omega
   obtain ⟨b2,o2,rfl,hcell2⟩:=hrB j (u8 (ps[k][j])) (by simp [hjl])
   have hc:=UInt8.toNat_lt ps[k][j]
   have hx:bits .xor .u32 (u:Int) (IntKind.u32.wrap (ps[k][j].toNat:Int)) = ((u ^^^ ps[k][j].toNat:Nat):Int):=by
    rw [show IntKind.u32.wrap (ps[k][j].toNat:Int) = (ps[k][j].toNat:Int) by rw [IntKind.wrap_u32']; omega,u32_xor_nat _ _ hu (by omega)]
   have hxl:u ^^^ ps[k][j].toNat < 4294967296:=Nat.xor_lt_two_pow (n:=32) (by omega) (by omega)
   obtain ⟨x,hx'⟩:∃ x,x = u ^^^ ps[k][j].toNat:=⟨_,rfl⟩
   rw [← hx'] at hx hxl
   simp -dsimp [go_sem,f16,f23,hjl,hcell2,hx]
   refine loop [3,24,25,26,27,28,29,30,31,32,33] (by kernel_rfl)
    (fun f3 w' => Box2 (fun a b w' => ∃ i y:Nat,i ≤ 8 ∧ a = i64 i ∧ b = .int .u32 y ∧ y < 4294967296 ∧ y = crcBits i x ∧ w = w') (f3 24) (f3 3) w') (fun f3 _ => 8 - (intOf (f3 24)).toNat) ⟨0,x,by simp [upd,crcBits,hxl]⟩ ?_
   rintro f3 w' ⟨i,y,hi8,f24,f33,hy,hy2,rfl⟩
   simp -dsimp [go_sem,f24,f33]
   refine cond_d (fun hil => ?_) (fun hil => ?_)
   ·have hil:i < 8:=by omega
    have hst:=crc_step y hy
    have hcl:=crcBit_lt hy
    have hcs:crcBit y = crcBits (i + 1) x:=by rw [crcBits_succ,hy2]
    obtain ⟨z,hz⟩:∃ z,z = crcBit y:=⟨_,rfl⟩
    rw [← hz] at hst hcl hcs
    have hk1:IntKind.i64.wrap ((i:Int) + 1) = ((i + 1:Nat):Int):=w64 (by omega) (by omega)
    obtain ⟨k1,hk1'⟩:∃ k1,k1 = i + 1:=⟨_,rfl⟩
    rw [← hk1'] at hk1
    simp -dsimp [go_sem,f24,f33,hst,hk1]
    exact ⟨⟨k1,z,by omega,rfl,rfl,hcl,by rw [hk1',hcs],rfl⟩,by simp [intOf]; omega⟩
   ·obtain rfl:i = 8:=by omega
    have hk1:IntKind.i64.wrap ((j:Int) + 1) = ((j + 1:Nat):Int):=w64 (by omega) (by omega)
    obtain ⟨k1,hk1'⟩:∃ k1,k1 = j + 1:=⟨_,rfl⟩
    rw [← hk1'] at hk1
    simp -dsimp [go_sem,f16,f33,hk1]
    refine ⟨⟨k1,y,by omega,rfl,rfl,hy,?_,rfl⟩,by simp [intOf]; omega⟩
    rw [hk1',List.take_succ_eq_append_getElem hjl,crcRow_append,← hu2,hy2,hx']
    rfl
  ·obtain rfl:j = ps[k].length:=by omega
   have hk1:IntKind.i64.wrap ((k:Int) + 1) = ((k + 1:Nat):Int):=w64 (by omega) (by omega)
   obtain ⟨k1,hk1'⟩:∃ k1,k1 = k + 1:=⟨_,rfl⟩
   rw [← hk1'] at hk1
   simp -dsimp [go_sem,f10,f23,hk1]
   refine ⟨⟨k1,u,by omega,rfl,rfl,hu,?_,rfl⟩,by simp [intOf]; omega⟩
   rw [hk1',List.take_succ_eq_append_getElem hlt,List.flatten_append,crcRow_append,← hv2,hu2,List.take_length]
   simp
 ·obtain rfl:k = ps.length:=by omega
  simp -dsimp [go_sem,f3]
  show bits .xor .u32 ((4294967295:Nat):Int) (v:Int) = _
  rw [u32_xor_nat _ _ (by omega) hv,xor_ones hv,hv2,List.take_length]
  rfl
theorem crc_if (v:Nat) (h:v < 4294967296):(if bits .and .u32 (v:Int) 1 = 1 then bits .xor .u32 ((v:Int) / 2) 3988292384 else (v:Int) / 2) = (crcBit v:Int):=by
 rw [show (1:Int) = ((1:Nat):Int) from rfl,u32_and_nat _ _ h (by omega),show v &&& 1 = v % 2 from Nat.and_two_pow_sub_one_eq_mod v 1,show (v:Int) / 2 = ((v / 2:Nat):Int) by omega,show (3988292384:Int) = ((3988292384:Nat):Int) from rfl,u32_xor_nat _ _ (by omega) (by omega)]
 unfold crcBit
 by_cases h1:v % 2 = 1
 ·rw [if_pos h1,if_pos (by omega)]
 ·rw [if_neg h1,if_neg (by omega)]
theorem refSum_spec (l:List UInt8) (A:Option Addr) (c:Nat) (w:World) (hr:Rd w A (l.map u8)) (hl:l.length ≤ 140737488355328) :
  Cal Tryz.prog 181 #[.slice A l.length c] w fun v w' => v = .int .u32 (sumL l:Nat) ∧ w' = w:=by
 refine enter Tryz.mixed Tryz.func181 rfl (by kernel_rfl) ?_
 simp -dsimp [go_sem]
 refine loop [3,4,5,6,7,8,9,10,11,12,13,14,15,16,17,18,19,20,21,22,23,24,25,26,27,28,29,30] (by kernel_rfl)
  (fun f w' => Box2 (fun a b w' => ∃ k v:Nat,k ≤ l.length ∧ b = i64 k ∧ a = .int .u32 v ∧ v < 4294967296 ∧ v = crcRow 4294967295 (l.take k) ∧ w' = w) (f 3) (f 4) w') (fun f _ => l.length - (intOf (f 4)).toNat)
  ⟨0,4294967295,Nat.zero_le _,rfl,rfl,by omega,rfl,rfl⟩ ?_
 rintro f w' ⟨k,v,hk,f4,f3,hv,hv2,rfl⟩
 simp -dsimp [go_sem,f3,f4]
 refine cond_d (fun hlt => ?_) (fun hlt => ?_)
 ·have hlt:k < l.length:=by omega
  obtain ⟨b,o,rfl,hcell⟩:=hr k (u8 l[k]) (by simp [hlt])
  have hw:IntKind.u32.wrap (l[k].toNat:Int) = (l[k].toNat:Int):=by have:=UInt8.toNat_lt l[k]; rw [IntKind.wrap_u32']; omega
  have hx:bits .xor .u32 (v:Int) (l[k].toNat:Int) = ((v ^^^ l[k].toNat:Nat):Int):=u32_xor_nat _ _ (by omega) (by have:=UInt8.toNat_lt l[k]; omega)
  have hxl:v ^^^ l[k].toNat < 4294967296:=Nat.xor_lt_two_pow (n:=32) hv (by have:=UInt8.toNat_lt l[k]; omega)
  obtain ⟨x,hx'⟩:∃ x,x = v ^^^ l[k].toNat:=⟨_,rfl⟩
  rw [← hx'] at hx hxl
  simp -dsimp [go_sem,f3,f4,hlt,hcell,hw,hx]
  refine loop [3,5,19,20,21,22,23,24,25,26,27,28,29,30] (by kernel_rfl)
   (fun f w4 => Box2 (fun a b w3 => ∃ i y:Nat,i ≤ 8 ∧ b = i64 i ∧ a = .int .u32 y ∧ y < 4294967296 ∧ y = crcBits i x ∧ w3 = w') (f 3) (f 5) w4) (fun f _ => 8 - (intOf (f 5)).toNat)
   ⟨0,x,Nat.zero_le _,rfl,rfl,hxl,rfl,rfl⟩ ?_
  rintro f2 w2 ⟨i,y,hi,f5,f3',hy,hy2,rfl⟩
  simp -dsimp [go_sem,f5,f3']
  refine cond_d (fun hil => ?_) (fun hil => ?_)
  ·have hil:i < 8:=by omega
   have hst:=crc_if y hy
   have hcl:=crcBit_lt hy
   have hcs:crcBit y = crcBits (i + 1) x:=by rw [crcBits_succ,hy2]
   obtain ⟨z,hz⟩:∃ z,z = crcBit y:=⟨_,rfl⟩
   rw [← hz] at hst hcl hcs
   have hk1:IntKind.i64.wrap ((i:Int) + 1) = ((i + 1:Nat):Int):=w64 (by omega) (by omega)
   obtain ⟨k1,hk1'⟩:∃ k1,k1 = i + 1:=⟨_,rfl⟩
   rw [← hk1'] at hk1
   simp -dsimp [go_sem,f5,f3']
   refine cond_e (fun h1 => ?_) (fun h1 => ?_)
   ·rw [if_pos h1] at hst
    simp -dsimp [go_sem,f5,f3',hst,hk1]
    exact ⟨⟨k1,z,by omega,rfl,rfl,hcl,by rw [hk1',hcs],rfl⟩,by simp [intOf]; omega⟩
   ·rw [if_neg h1] at hst
    simp -dsimp [go_sem,f5,f3',hst,hk1]
    exact ⟨⟨k1,z,by omega,rfl,rfl,hcl,by rw [hk1',hcs],rfl⟩,by simp [intOf]; omega⟩
  ·obtain rfl:i = 8:=by omega
   have hk1:IntKind.i64.wrap ((k:Int) + 1) = ((k + 1:Nat):Int):=w64 (by omega) (by omega)
   obtain ⟨k1,hk1'⟩:∃ k1,k1 = k + 1:=⟨_,rfl⟩
   rw [← hk1'] at hk1
   simp -dsimp [go_sem,f4,hk1]
   refine ⟨⟨k1,y,by omega,rfl,f3',hy,?_,rfl⟩,by simp [intOf]; omega⟩
   rw [hk1',List.take_succ_eq_append_getElem hlt,crcRow_append,← hv2,hy2,hx']
   rfl
 ·obtain rfl:k = l.length:=by omega
  simp -dsimp [go_sem,f3]
  show bits .xor .u32 ((4294967295:Nat):Int) (v:Int) = _
  rw [u32_xor_nat _ _ (by omega) hv,xor_ones hv,hv2,List.take_length]
  rfl
/-! A byte that is another one has another sum. -/
/-- A number in four bytes, the lowest first. -/
def fourL (n:Nat):List UInt8:=[UInt8.ofNat (n % 256),UInt8.ofNat (n / 256 % 256),UInt8.ofNat (n / 65536 % 256),UInt8.ofNat (n / 16777216 % 256)]
theorem four_spec (n:Nat) (h:n < 4294967296) (w:World):Cal Tryz.prog 154 #[.int .u32 n] w fun v w' => Bs w' v (fourL n) w.heap.size ∧ Nw w w':=by
 refine enter Tryz.mixed Tryz.func154 rfl (by kernel_rfl) ?_
 have e0:IntKind.u8.wrap (n:Int) = ((n % 256:Nat):Int):=by rw [IntKind.wrap_u8']; omega
 have s1:(n:Int) / 256 = ((n / 256:Nat):Int):=by omega
 have s2:(n:Int) / 65536 = ((n / 65536:Nat):Int):=by omega
 have s3:(n:Int) / 16777216 = ((n / 16777216:Nat):Int):=by omega
 have e1:IntKind.u8.wrap ((n / 256:Nat):Int) = ((n / 256 % 256:Nat):Int):=by rw [IntKind.wrap_u8']; omega
 have e2:IntKind.u8.wrap ((n / 65536:Nat):Int) = ((n / 65536 % 256:Nat):Int):=by rw [IntKind.wrap_u8']; omega
 have e3:IntKind.u8.wrap ((n / 16777216:Nat):Int) = ((n / 16777216 % 256:Nat):Int):=by rw [IntKind.wrap_u8']; omega
 have hl:(fourL n).map u8 = [.int .u8 ((n % 256:Nat):Int),.int .u8 ((n / 256 % 256:Nat):Int),.int .u8 ((n / 65536 % 256:Nat):Int),.int .u8 ((n / 16777216 % 256:Nat):Int)]:=by
  simp only [fourL,List.map_cons,List.map_nil]
  rw [byteOf _ (by omega),byteOf _ (by omega),byteOf _ (by omega),byteOf _ (by omega)]
 generalize n % 256 = x0 at e0 hl
 obtain ⟨y1,hy1⟩:∃ y1,y1 = n / 256:=⟨_,rfl⟩
 obtain ⟨y2,hy2⟩:∃ y2,y2 = n / 65536:=⟨_,rfl⟩
 obtain ⟨y3,hy3⟩:∃ y3,y3 = n / 16777216:=⟨_,rfl⟩
 rw [← hy1] at s1 e1 hl
 rw [← hy2] at s2 e2 hl
 rw [← hy3] at s3 e3 hl
 obtain ⟨x1,hx1⟩:∃ x1,x1 = y1 % 256:=⟨_,rfl⟩
 obtain ⟨x2,hx2⟩:∃ x2,x2 = y2 % 256:=⟨_,rfl⟩
 obtain ⟨x3,hx3⟩:∃ x3,x3 = y3 % 256:=⟨_,rfl⟩
 rw [← hx1] at e1 hl
 rw [← hx2] at e2 hl
 rw [← hx3] at e3 hl
 simp -dsimp [go_sem,e0,e1,e2,e3,s1,s2,s3]
 refine ⟨?_,(Kp.refl _ _).alloc _⟩
 exact Bs.of_gs (by rw [hl]; exact Gs.made w 5 1 4 _ rfl rfl rfl (by simp [maxLen]) (Nat.le_refl _)) rfl
/-- The number of four bytes. -/
def fromL (l:List UInt8):Nat:=match l with
 | a :: b :: c :: d :: _ => a.toNat + b.toNat * 256 + c.toNat * 65536 + d.toNat * 16777216
 | _ => 0
theorem or_at (k u x:Nat) (hk:k ≤ 24) (hu:u < 2 ^ k) (hx:x < 256):bits .or .u32 (u:Int) (IntKind.u32.wrap ((x:Int) * ((2 ^ k:Nat):Int))) = ((u + x * 2 ^ k:Nat):Int):=by
 have h1:2 ^ k ≤ 2 ^ 24:=Nat.pow_le_pow_right (by omega) (by omega)
 have h2:x * 2 ^ k ≤ 255 * 2 ^ 24:=Nat.mul_le_mul (by omega) h1
 have e:(x:Int) * ((2 ^ k:Nat):Int) = ((x * 2 ^ k:Nat):Int):=by rw [Int.natCast_mul]
 rw [e,show IntKind.u32.wrap ((x * 2 ^ k:Nat):Int) = ((x * 2 ^ k:Nat):Int) by rw [IntKind.wrap_u32']; omega,u32_or_nat u _ (by omega) (by omega),Nat.or_comm,nat_join k _ _ (Nat.mul_mod_left _ _) hu,Nat.add_comm]
theorem from_or (a b c d:UInt8) {r:List UInt8}:bits .or .u32 (bits .or .u32 (bits .or .u32 (a.toNat:Int) (IntKind.u32.wrap ((b.toNat:Int) * 256))) (IntKind.u32.wrap ((c.toNat:Int) * 65536))) (IntKind.u32.wrap ((d.toNat:Int) * 16777216)) = (fromL (a :: b :: c :: d :: r):Int):=by
 have ha:=UInt8.toNat_lt a
 have hb:=UInt8.toNat_lt b
 have hc:=UInt8.toNat_lt c
 have hd:=UInt8.toNat_lt d
 have e1:=or_at 8 a.toNat b.toNat (by omega) (by omega) (by omega)
 have e2:=or_at 16 (a.toNat + b.toNat * 2 ^ 8) c.toNat (by omega) (by omega) (by omega)
 have e3:=or_at 24 (a.toNat + b.toNat * 2 ^ 8 + c.toNat * 2 ^ 16) d.toNat (by omega) (by omega) (by omega)
 rw [show (256:Int) = ((2 ^ 8:Nat):Int) from rfl,show (65536:Int) = ((2 ^ 16:Nat):Int) from rfl,show (16777216:Int) = ((2 ^ 24:Nat):Int) from rfl,e1,e2,e3]
 rfl
theorem from_spec (l:List UInt8) (hl:4 ≤ l.length) (A:Option Addr) (c:Nat) (w:World) (hr:Rd w A (l.map u8)):Cal Tryz.prog 242 #[.slice A l.length c] w fun v w' => v = .int .u32 (fromL l:Nat) ∧ Nw w w':=by
 match l,hl with
 | a :: b :: c0 :: d :: r,_ =>
  obtain ⟨g,o,rfl,h0⟩:=hr 0 (u8 a) rfl
  obtain ⟨_,_,e,h1⟩:=hr 1 (u8 b) rfl
  cases e
  obtain ⟨_,_,e,h2⟩:=hr 2 (u8 c0) rfl
  cases e
  obtain ⟨_,_,e,h3⟩:=hr 3 (u8 d) rfl
  cases e
  have hn:(a :: b :: c0 :: d :: r).length = r.length + 4:=rfl
  rw [hn,Nat.add_zero] at *
  obtain ⟨n,hn'⟩:∃ n,n = r.length + 4:=⟨_,rfl⟩
  rw [← hn']
  have l0:0 < n:=by omega
  have l1:1 < n:=by omega
  have l2:2 < n:=by omega
  have l3:3 < n:=by omega
  have m1:(1:Int) < (n:Int):=by omega
  have m2:(2:Int) < (n:Int):=by omega
  have m3:(3:Int) < (n:Int):=by omega
  have wrp:∀ x:UInt8,IntKind.u32.wrap (x.toNat:Int) = (x.toNat:Int):=fun x => by
   have:=UInt8.toNat_lt x
   rw [IntKind.wrap_u32']; omega
  refine enter Tryz.mixed Tryz.func242 rfl (by kernel_rfl) ?_
  simp -dsimp [go_sem]
  refine draw (.take 0 (.take 1 (.take 2 (.take 3 (.take 4 (.take 5 (.take 6 (.take 7 (.take 8 (.take 9 (.take 10 (.take 11 (.take 12 (.take 13 (.take 14 (.take 15 (.take 16 (.take 17 (.take 18 (.take 19 (.take 20 (.take 21 (.take 22 .done))))))))))))))))))))))) (by kernel_rfl) (fun w1 => w1.heap = w.heap) rfl ?_
  have hcell:∀ w1:World,w1.heap = w.heap → ∀ a,w1.cell? a = w.cell? a:=fun w1 h a => by simp [World.cell?,h]
  simp -dsimp [go_sem,l0,l1,l2,l3,m1,m2,m3,h0,h1,h2,h3,wrp]
  refine ⟨fun w1 h => by simp [hcell w1 h,h0],fun w1 h => by simp [hcell w1 h,h1],fun w1 h => by simp [hcell w1 h,h2],fun w1 h => by simp [hcell w1 h,h3],?_,(Kp.refl _ _).drew⟩
  exact from_or a b c0 d
theorem refFrom_spec (l:List UInt8) (hl:4 ≤ l.length) (A:Option Addr) (c:Nat) (w:World) (hr:Rd w A (l.map u8)):Cal Tryz.prog 250 #[.slice A l.length c] w fun v w' => v = .int .u32 (fromL l:Nat) ∧ Nw w w':=by
 match l,hl with
 | a :: b :: c0 :: d :: r,_ =>
  obtain ⟨g,o,rfl,h0⟩:=hr 0 (u8 a) rfl
  obtain ⟨_,_,e,h1⟩:=hr 1 (u8 b) rfl
  cases e
  obtain ⟨_,_,e,h2⟩:=hr 2 (u8 c0) rfl
  cases e
  obtain ⟨_,_,e,h3⟩:=hr 3 (u8 d) rfl
  cases e
  have hn:(a :: b :: c0 :: d :: r).length = r.length + 4:=rfl
  rw [hn,Nat.add_zero] at *
  obtain ⟨n,hn'⟩:∃ n,n = r.length + 4:=⟨_,rfl⟩
  rw [← hn']
  have l0:0 < n:=by omega
  have l1:1 < n:=by omega
  have l2:2 < n:=by omega
  have l3:3 < n:=by omega
  have m1:(1:Int) < (n:Int):=by omega
  have m2:(2:Int) < (n:Int):=by omega
  have m3:(3:Int) < (n:Int):=by omega
  have wrp:∀ x:UInt8,IntKind.u32.wrap (x.toNat:Int) = (x.toNat:Int):=fun x => by
   have:=UInt8.toNat_lt x
   rw [IntKind.wrap_u32']; omega
  refine enter Tryz.mixed Tryz.func250 rfl (by kernel_rfl) ?_
  simp -dsimp [go_sem]
  refine draw (.take 0 (.take 1 (.take 2 (.take 3 (.take 4 (.take 5 (.take 6 (.take 7 (.take 8 (.take 9 (.take 10 (.take 11 (.take 12 (.take 13 (.take 14 (.take 15 (.take 16 (.take 17 (.take 18 (.take 19 (.take 20 (.take 21 (.take 22 .done))))))))))))))))))))))) (by kernel_rfl) (fun w1 => w1.heap = w.heap) rfl ?_
  have hcell:∀ w1:World,w1.heap = w.heap → ∀ a,w1.cell? a = w.cell? a:=fun w1 h a => by simp [World.cell?,h]
  simp -dsimp [go_sem,l0,l1,l2,l3,m1,m2,m3,h0,h1,h2,h3,wrp]
  refine ⟨fun w1 h => by simp [hcell w1 h,h0],fun w1 h => by simp [hcell w1 h,h1],fun w1 h => by simp [hcell w1 h,h2],fun w1 h => by simp [hcell w1 h,h3],?_,(Kp.refl _ _).drew⟩
  exact from_or a b c0 d
/-- A record's head, a record. -/
def headL (n:Nat):List UInt8:=fourL n ++ fourL (sumL (fourL n))
def recL (p:List UInt8):List UInt8:=headL p.length ++ p ++ fourL (sumL (headL p.length ++ p))
theorem sumL_lt (l:List UInt8):sumL l < 4294967296:=by
 unfold sumL; omega
theorem fourL_len (n:Nat):(fourL n).length = 4:=rfl
theorem headL_len (n:Nat):(headL n).length = 8:=rfl
/-- octet.Sum of one row. -/
theorem sum1_spec (l:List UInt8) (A:Option Addr) (c:Nat) (w:World) (hr:Rd w A (l.map u8)) (hc:l.length ≤ c) (hl:l.length ≤ 140737488355328) :
  Cal Tryz.prog 155 #[.slice (some ⟨w.heap.size,0,none⟩) 1 1] (w.alloc (.cells #[.slice A l.length c] 23)) fun v w' => v = .int .u32 (sumL l:Nat) ∧ Nw w w':=by
 have h:=sum_spec [l] (some ⟨w.heap.size,0,none⟩) 1 (w.alloc (.cells #[.slice A l.length c] 23)) (fun _ => False) (Brs.one (p:=l) (d:=c) (Blk.new w _ _) (fun h => h) (hr.nw ((Kp.refl _ _).alloc _)) (fun _ _ h => h) hc) (by simp) (by simp; omega)
 refine h.mono fun v w' ⟨hv,hw⟩ => ?_
 subst hw
 rw [show ([l]:List (List UInt8)).flatten = l by simp] at hv
 exact ⟨hv,(Kp.refl _ _).alloc _⟩
/-- octet.Join of two rows. -/
theorem join2_spec (p q:List UInt8) (A B:Option Addr) (c d:Nat) (w:World) (hA:Rd w A (p.map u8)) (hB:Rd w B (q.map u8)) (hc:p.length ≤ c) (hd:q.length ≤ d) (hl:p.length + q.length ≤ 140737488355328) :
  Cal Tryz.prog 152 #[.slice (some ⟨w.heap.size,0,none⟩) 2 2] (w.alloc (.cells #[.slice A p.length c,.slice B q.length d] 23)) fun v w' => Bs w' v (p ++ q) w.heap.size ∧ Nw w w':=by
 have kn:Nw w (w.alloc (.cells #[.slice A p.length c,.slice B q.length d] 23)):=(Kp.refl _ _).alloc _
 have h:=join_spec [p,q] (some ⟨w.heap.size,0,none⟩) 2 (w.alloc (.cells #[.slice A p.length c,.slice B q.length d] 23)) (fun _ => False) (Brs.two (Blk.new w _ _) (fun h => h) (hA.nw kn) (fun _ _ h => h) hc (hB.nw kn) (fun _ _ h => h) hd) (Nat.le_refl _) (by simp) (by simp; omega)
 refine h.mono fun v w' ⟨hv,hk⟩ => ?_
 rw [show ([p,q]:List (List UInt8)).flatten = p ++ q by simp] at hv
 exact ⟨hv.mono kn.size,kn.nw hk⟩
theorem headOf_spec (n:Nat) (h:n < 4294967296) (w:World):Cal Tryz.prog 153 #[.int .u32 n] w fun v w' => Bs w' v (headL n) w.heap.size ∧ Nw w w':=by
 refine enter Tryz.mixed Tryz.func153 rfl (by kernel_rfl) ?_
 simp -dsimp [go_sem]
 refine call (four_spec n h w) ?_
 rintro v w1 ⟨⟨A1,c1,rfl,ho1,hA1⟩,hk1⟩
 simp -dsimp [go_sem]
 refine call (four_spec n h w1) ?_
 rintro v w2 ⟨⟨A2,c2,rfl,ho2,hA2⟩,hk2⟩
 simp -dsimp [go_sem]
 refine call (sum1_spec (fourL n) A2 c2 w2 ho2.rd ho2.2.1 (by rw [fourL_len]; omega)) ?_
 rintro v w3 ⟨rfl,hk3⟩
 simp -dsimp [go_sem]
 refine call (four_spec _ (sumL_lt _) w3) ?_
 rintro v w4 ⟨⟨A4,c4,rfl,ho4,hA4⟩,hk4⟩
 simp -dsimp [go_sem]
 have k4:=((hk1.nw hk2).nw hk3).nw hk4
 refine call (join2_spec (fourL n) (fourL (sumL (fourL n))) A1 A4 c1 c4 w4 (((ho1.nw hk2).nw hk3).nw hk4).rd ho4.rd ho1.2.1 ho4.2.1 (by rw [fourL_len,fourL_len]; omega)) ?_
 rintro v w5 ⟨hB,hk5⟩
 simp -dsimp [go_sem]
 exact ⟨Bs.mono hB k4.size,k4.nw hk5⟩
theorem encode_spec (ps:List (List UInt8)) (A:Option Addr) (c:Nat) (w:World) (S:Nat → Prop) (hr:Brs w A ps S) (hc:ps.length ≤ c) (hp:ps.length ≤ 140737488355328) (hl:ps.flatten.length ≤ 140737488355328) :
  Cal Tryz.prog 97 #[.slice A ps.length c] w fun v w' => Nw w w' ∧
   (1048576 < ps.flatten.length ∧ v = .tuple #[.slice none 0 0,i64 5] ∨ ps.flatten.length ≤ 1048576 ∧ ∃ u,v = .tuple #[u,i64 0] ∧ Bs w' u (recL ps.flatten) w.heap.size):=by
 refine enter Tryz.mixed Tryz.func97 rfl (by kernel_rfl) ?_
 simp -dsimp [go_sem]
 obtain ⟨vs,hvl,hrd,hoA,hi⟩:=id hr
 refine loop [4,6,10,11,12,13,14,15,16,17,18] (by kernel_rfl) (fun f w' => Box2 (fun a b w' => ∃ k:Nat,k ≤ ps.length ∧ b = i64 k ∧ a = i64 (ps.take k).flatten.length ∧ w' = w) (f 4) (f 10) w')
  (fun f _ => ps.length - (intOf (f 10)).toNat) ⟨0,Nat.zero_le _,rfl,rfl,rfl⟩ ?_
 rintro f w' ⟨k,hk,f10,f4,rfl⟩
 have hft:=flat_take ps k
 obtain ⟨x,hx⟩:∃ x,x = (ps.take k).flatten.length:=⟨_,rfl⟩
 rw [← hx] at f4 hft
 simp -dsimp [go_sem,f10,f4]
 refine cond_d (fun hlt => ?_) (fun hlt => ?_)
 ·have hlt:k < ps.length:=by omega
  obtain ⟨B,d,hv,hrB,hoB,hd⟩:=hi k hlt
  obtain ⟨b,o,rfl,hcell⟩:=hrd k _ hv
  have hat:=congrArg List.length (flat_at ps k hlt)
  rw [List.length_append,← hx] at hat
  have hft1:=flat_take ps (k + 1)
  have h2:IntKind.i64.wrap ((x:Int) + (ps[k].length:Int)) = ((x + ps[k].length:Nat):Int):=w64 (by omega) (by omega)
  have hk1:IntKind.i64.wrap ((k:Int) + 1) = ((k + 1:Nat):Int):=w64 (by omega) (by omega)
  obtain ⟨k1,hk1'⟩:∃ k1,k1 = k + 1:=⟨_,rfl⟩
  obtain ⟨z,hz⟩:∃ z,z = x + ps[k].length:=⟨_,rfl⟩
  rw [← hz] at h2 hat
  rw [← hk1'] at hk1 hat
  simp -dsimp [go_sem,f4,f10,hlt,hcell,h2,hk1]
  exact ⟨⟨k1,by omega,rfl,by rw [hat],rfl⟩,by simp [intOf]; omega⟩
 ·obtain rfl:k = ps.length:=by omega
  rw [List.take_length] at hx
  obtain ⟨p,hpp⟩:∃ p,p = ps.flatten:=⟨_,rfl⟩
  have hl0:=hl
  rw [← hpp] at hx hl ⊢
  simp -dsimp [go_sem,f4]
  refine cond_d (fun hbig => ?_) (fun hbig => ?_)
  ·simp -dsimp [go_sem]
   exact ⟨Kp.refl _ _,by omega⟩
  ·have hw:IntKind.u32.wrap (x:Int) = x:=by rw [IntKind.wrap_u32']; omega
   simp -dsimp [go_sem,f4,hw]
   refine call (headOf_spec x (by omega) w') ?_
   rintro v w1 ⟨⟨A1,c1,rfl,ho1,hA1⟩,hk1⟩
   have hj:=join_spec ps A c w1 S (hr.nw hk1) hc hp (by omega)
   rw [← hpp] at hj
   simp -dsimp [go_sem]
   refine call hj ?_
   rintro v w2 ⟨⟨A2,c2,rfl,ho2,hA2⟩,hk2⟩
   simp -dsimp [go_sem]
   refine call (join2_spec (headL x) p A1 A2 c1 c2 w2 (ho1.nw hk2).rd ho2.rd ho1.2.1 ho2.2.1 (by rw [headL_len]; omega)) ?_
   rintro v w3 ⟨⟨A3,c3,rfl,ho3,hA3⟩,hk3⟩
   have hl3:(headL x ++ p).length = 8 + p.length:=by rw [List.length_append,headL_len]
   obtain ⟨q,hq⟩:∃ q,q = headL x ++ p:=⟨_,rfl⟩
   rw [← hq] at ho3 hl3 ⊢
   simp -dsimp [go_sem]
   refine call (sum1_spec q A3 c3 w3 ho3.rd ho3.2.1 (by omega)) ?_
   rintro v w4 ⟨rfl,hk4⟩
   simp -dsimp [go_sem]
   refine call (four_spec _ (sumL_lt q) w4) ?_
   rintro v w5 ⟨⟨A5,c5,rfl,ho5,hA5⟩,hk5⟩
   simp -dsimp [go_sem]
   have k5:=(((hk1.nw hk2).nw hk3).nw hk4).nw hk5
   refine call (join2_spec q (fourL (sumL q)) A3 A5 c3 c5 w5 ((ho3.nw hk4).nw hk5).rd ho5.rd ho3.2.1 ho5.2.1 (by rw [fourL_len]; omega)) ?_
   rintro v w6 ⟨hB,hk6⟩
   have hrec:q ++ fourL (sumL q) = recL p:=by rw [hq,hx]; rfl
   rw [hrec] at hB
   simp -dsimp [go_sem]
   exact ⟨k5.nw hk6,by omega,Bs.mono hB k5.size⟩
theorem bytes_eq (p q:List UInt8):((⟨p.toArray⟩:ByteArray) == ⟨q.toArray⟩) = decide (p = q):=by
 rw [Bool.eq_iff_iff,MapKept.bytes_beq,decide_eq_true_iff]
 constructor
 ·intro h
  injection h with h
  exact List.toArray_inj h
 ·rintro rfl; rfl
theorem equal_spec (p q:List UInt8) (A B:Option Addr) (c d:Nat) (w:World) (hA:Rd w A (p.map u8)) (hB:Rd w B (q.map u8)) :
  Cal Tryz.prog 243 #[.slice A p.length c,.slice B q.length d] w fun v w' => v = .bool (decide (p = q)) ∧ w' = w:=by
 have h1:=fun (c:Nat) => conv_str (P:=Tryz.prog) (t:=23) (s:=9) (e:=5) (c:=c) (by kernel_rfl) (by kernel_rfl) (by kernel_rfl) hA
 have h2:=fun (c:Nat) => conv_str (P:=Tryz.prog) (t:=23) (s:=9) (e:=5) (c:=c) (by kernel_rfl) (by kernel_rfl) (by kernel_rfl) hB
 have h3:=bytes_eq p q
 refine enter Tryz.mixed Tryz.func243 rfl (by kernel_rfl) ?_
 simp -dsimp [go_sem,h1,h2]
 exact (by rw [Bool.eq_iff_iff]; simp:(p == q) = decide (p = q))
/-- What bytes begin with: what the record holds, how many bytes it has, the error. -/
def decL (b:List UInt8):List UInt8 × Nat × Nat :=
 if b.length < 8 then ([],0,2) else if b.take 8 ≠ headL (fromL b) then ([],0,4) else if 1048576 < fromL b then ([],0,5) else if b.length < 12 + fromL b then ([],0,2)
 else if fromL (b.drop (8 + fromL b)) ≠ sumL (b.take (8 + fromL b)) then ([],0,4) else ((b.take (8 + fromL b)).drop 8,12 + fromL b,0)
theorem fromL_lt (l:List UInt8):fromL l < 4294967296:=by
 unfold fromL
 split
 ·rename_i a b c d _
  have ha:=UInt8.toNat_lt a
  have hb:=UInt8.toNat_lt b
  have hc:=UInt8.toNat_lt c
  have hd:=UInt8.toNat_lt d
  omega
 ·omega
theorem decode_spec (b:List UInt8) (A:Option Addr) (c:Nat) (w:World) (hr:Rd w A (b.map u8)) (hc:b.length ≤ c) (hl:b.length ≤ 140737488355328) :
  Cal Tryz.prog 207 #[.slice A b.length c] w fun v w' => Nw w w' ∧ ∃ u,v = .tuple #[u,i64 (decL b).2.1,i64 (decL b).2.2] ∧ Bs w' u (decL b).1 w.heap.size:=by
 refine enter Tryz.mixed Tryz.func207 rfl (by kernel_rfl) ?_
 have hlen:b.length = b.length:=rfl
 obtain ⟨L,hL⟩:∃ L,L = b.length:=⟨_,rfl⟩
 rw [← hL] at hc hl ⊢
 simp -dsimp [go_sem]
 refine cond_d (fun h8 => ?_) (fun h8 => ?_)
 ·have e:decL b = ([],0,2):=by unfold decL; rw [if_pos (by omega)]
  simp -dsimp [go_sem]
  rw [e]
  exact ⟨Kp.refl _ _,_,⟨rfl,rfl,rfl⟩,Bs.nil _ _⟩
 ·have hff:=from_spec b (by omega) A c w hr
  rw [← hL] at hff
  simp -dsimp [go_sem]
  refine call hff ?_
  rintro v w1 ⟨rfl,hk1⟩
  have hnl:=fromL_lt b
  obtain ⟨n,hn⟩:∃ n,n = fromL b:=⟨_,rfl⟩
  rw [← hn] at hnl ⊢
  have h8c:8 ≤ c:=by omega
  have h8c':(8:Int) ≤ (c:Int):=by omega
  simp -dsimp [go_sem]
  refine draw (.take 0 (.take 1 (.take 2 (.alt 3 (.alt 4 (.take 5 (.take 6 .done)) .stop) .stop)))) (by kernel_rfl) (fun _ => True) trivial ?_
  simp -dsimp [go_sem,h8c,h8c']
  refine call (headOf_spec n hnl w1.drew) ?_
  rintro v w2 ⟨⟨A2,c2,rfl,ho2,hA2⟩,hk2⟩
  have k2:Nw w w2:=(hk1.drew).nw hk2
  have ht8:(b.take 8).length = 8:=by rw [List.length_take]; omega
  have heq:=equal_spec (b.take 8) (headL n) A A2 c c2 w2 (by rw [List.map_take]; exact (hr.nw k2).take 8) ho2.rd
  rw [ht8] at heq
  simp -dsimp [go_sem]
  refine call heq ?_
  rintro v w3 ⟨rfl,rfl⟩
  simp -dsimp [go_sem]
  have u8':¬ b.length < 8:=by omega
  refine cond_nd (fun hh => ?_) (fun hh => ?_)
  ·have e:decL b = ([],0,4):=by unfold decL; rw [if_neg u8',if_pos (by rw [← hn]; exact hh)]
   simp -dsimp [go_sem]
   rw [e]
   exact ⟨k2,_,⟨rfl,rfl,rfl⟩,Bs.nil _ _⟩
  ·have hh':¬ b.take 8 ≠ headL (fromL b):=by rw [← hn]; exact fun h => h hh
   simp -dsimp [go_sem]
   refine cond_d (fun hbig => ?_) (fun hbig => ?_)
   ·have e:decL b = ([],0,5):=by unfold decL; rw [if_neg u8',if_neg hh',if_pos (by omega)]
    simp -dsimp [go_sem]
    rw [e]
    exact ⟨k2,_,⟨rfl,rfl,rfl⟩,Bs.nil _ _⟩
   ·have hbig':¬ 1048576 < fromL b:=by omega
    have w1':IntKind.i64.wrap ((L:Int) - 8) = (L:Int) - 8:=w64 (by omega) (by omega)
    have w2':IntKind.i64.wrap ((L:Int) - 8 - 4) = (L:Int) - 12:=by rw [w64 (by omega) (by omega)]; omega
    have w3':IntKind.i64.wrap (n:Int) = n:=w64 (by omega) (by omega)
    simp -dsimp [go_sem,w1',w2',w3']
    refine cond_d (fun hs => ?_) (fun hs => ?_)
    ·have e:decL b = ([],0,2):=by unfold decL; rw [if_neg u8',if_neg hh',if_neg hbig',if_pos (by omega)]
     simp -dsimp [go_sem]
     rw [e]
     exact ⟨k2,_,⟨rfl,rfl,rfl⟩,Bs.nil _ _⟩
    ·have hs':¬ b.length < 12 + fromL b:=by omega
     have w4':IntKind.i64.wrap (8 + (n:Int)) = ((8 + n:Nat):Int):=w64 (by omega) (by omega)
     obtain ⟨m,hm⟩:∃ m,m = 8 + n:=⟨_,rfl⟩
     rw [← hm] at w4'
     have hmc:m ≤ c:=by omega
     have hmL:m ≤ L:=by omega
     have hmL':(m:Int) ≤ (L:Int):=by omega
     simp -dsimp [go_sem,w3',w4',hmc,hmL,hmL']
     have hr3:=hr.nw k2
     have hdl:(b.drop m).length = L - m:=by rw [List.length_drop,hL]
     have hrd:Rd w3 (cutA A c m) ((b.drop m).map u8):=by
      rw [List.map_drop]; exact hr3.cut (by simp; omega) m
     have hf2:=from_spec (b.drop m) (by omega) (cutA A c m) (c - m) w3 hrd
     rw [hdl] at hf2
     refine call hf2 ?_
     rintro v w4 ⟨rfl,hk4⟩
     have htl:(b.take m).length = m:=by rw [List.length_take]; omega
     have hrt:Rd w4 A ((b.take m).map u8):=by
      rw [List.map_take]; exact (hr3.nw hk4).take m
     have hs2:=sum1_spec (b.take m) A c w4 hrt (by omega) (by omega)
     rw [htl] at hs2
     obtain ⟨y,hy⟩:∃ y,y = fromL (b.drop m):=⟨_,rfl⟩
     rw [← hy]
     simp -dsimp [go_sem]
     refine call hs2 ?_
     rintro v w5 ⟨rfl,hk5⟩
     obtain ⟨z,hz⟩:∃ z,z = sumL (b.take m):=⟨_,rfl⟩
     rw [← hz]
     have k5:Nw w w5:=(k2.nw hk4).nw hk5
     simp -dsimp [go_sem]
     refine cond_n (fun hne => ?_) (fun he => ?_)
     ·have e:decL b = ([],0,4):=by
       unfold decL
       rw [if_neg u8',if_neg hh',if_neg hbig',if_neg hs',if_pos (by rw [← hn,← hm,← hy,← hz]; omega)]
      simp -dsimp [go_sem]
      rw [e]
      exact ⟨k5,_,⟨rfl,rfl,rfl⟩,Bs.nil _ _⟩
     ·have e:decL b = ((b.take m).drop 8,12 + n,0):=by
       unfold decL
       rw [if_neg u8',if_neg hh',if_neg hbig',if_neg hs',if_neg (by rw [← hn,← hm,← hy,← hz]; omega),← hn,← hm]
      have hm8:8 ≤ m:=by omega
      have hm8':(8:Int) ≤ (m:Int):=by omega
      simp -dsimp [go_sem,hm8,hm8',h8c,h8c']
      have hcl:((b.take m).drop 8).length = m - 8:=by rw [List.length_drop,htl]
      have hcs:=clone_spec (cutA A c 8) (c - 8) ((b.take m).drop 8) w5 (by
       rw [List.map_drop]; exact (hrt.nw hk5).cut (by simp; omega) 8) (by omega)
      rw [hcl] at hcs
      refine call hcs ?_
      rintro v w6 ⟨hB,hk6⟩
      have w5':IntKind.i64.wrap ((m:Int) + 4) = ((12 + n:Nat):Int):=by rw [w64 (by omega) (by omega)]; omega
      simp -dsimp [go_sem,w5']
      rw [e]
      exact ⟨k5.nw hk6,_,⟨rfl,rfl,rfl⟩,hB.mono k5.size⟩
/-- What a record holds that bytes are. -/
def oneL (b:List UInt8):List UInt8 × Nat:=if (decL b).2.2 = 0 ∧ (decL b).2.1 ≠ b.length then ([],3) else ((decL b).1,(decL b).2.2)
theorem decL_le (b:List UInt8):(decL b).2.1 ≤ b.length ∧ ((decL b).2.2 = 0 → 12 ≤ (decL b).2.1):=by
 unfold decL
 split
 ·simp
 ·split
  ·simp
  ·split
   ·simp
   ·split
    ·simp
    ·split
     ·simp
     ·simp; omega
theorem one_spec (b:List UInt8) (A:Option Addr) (c:Nat) (w:World) (hr:Rd w A (b.map u8)) (hc:b.length ≤ c) (hl:b.length ≤ 140737488355328) :
  Cal Tryz.prog 204 #[.slice A b.length c] w fun v w' => Nw w w' ∧ ∃ u,v = .tuple #[u,i64 (oneL b).2] ∧ Bs w' u (oneL b).1 w.heap.size:=by
 refine enter Tryz.mixed Tryz.func204 rfl (by kernel_rfl) ?_
 simp -dsimp [go_sem]
 refine call (decode_spec b A c w hr hc hl) ?_
 rintro v w1 ⟨hk,u,rfl,hB⟩
 obtain ⟨n,hn⟩:∃ n,n = (decL b).2.1:=⟨_,rfl⟩
 obtain ⟨e,he⟩:∃ e,e = (decL b).2.2:=⟨_,rfl⟩
 rw [← hn,← he]
 obtain ⟨L,hL⟩:∃ L,L = b.length:=⟨_,rfl⟩
 rw [← hL]
 by_cases h0:e = 0
 ·subst h0
  by_cases h1:n = L
  ·have e1:oneL b = ((decL b).1,(decL b).2.2):=by
    unfold oneL
    rw [if_neg (by rw [← hn,← he,← hL]; omega)]
   have h1':((n:Int) != (L:Int)) = false:=by simp; omega
   simp -dsimp [go_sem,h1']
   rw [e1]
   exact ⟨hk,u,⟨rfl,by rw [← he]; rfl⟩,hB⟩
  ·have e1:oneL b = ([],3):=by
    unfold oneL
    rw [if_pos (by rw [← hn,← he,← hL]; exact ⟨rfl,h1⟩)]
   have h1':((n:Int) != (L:Int)) = true:=by simp; omega
   simp -dsimp [go_sem,h1']
   rw [e1]
   exact ⟨hk,_,⟨rfl,rfl⟩,Bs.nil _ _⟩
 ·have e1:oneL b = ((decL b).1,(decL b).2.2):=by
   unfold oneL
   rw [if_neg (by rw [← he]; exact fun h => h0 h.1)]
  have h0':((e:Int) == 0) = false:=by simp; omega
  simp -dsimp [go_sem,h0']
  rw [e1]
  exact ⟨hk,u,⟨rfl,by rw [← he]⟩,hB⟩
/-- What records hold, one behind the other, from the beginning on, and how many bytes they have (k: more records than there can be). -/
def scanL:Nat → List UInt8 → List (List UInt8) × Nat
 | 0,_ => ([],0)
 | k + 1,b => if b.length = 0 then ([],0) else if (decL b).2.2 = 0 then ((decL b).1 :: (scanL k (b.drop (decL b).2.1)).1,(decL b).2.1 + (scanL k (b.drop (decL b).2.1)).2) else ([],0)
/-- Rows in a slice of their own; all lies in what is new since B. -/
def Rs (w:World) (v:Value) (ps:List (List UInt8)) (B:Nat):Prop:=∃ vs F,Gf w 23 1 v ps.length vs F ∧ RV w vs ps (fun k => F k ∨ k < B) ∧ ∀ i,F i → B ≤ i
end Go.Proofs.YtellahclbhfdiaaGreatDoor
