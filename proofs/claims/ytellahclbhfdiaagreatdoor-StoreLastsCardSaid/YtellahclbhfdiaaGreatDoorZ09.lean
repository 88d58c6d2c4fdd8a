/-
  The reference's numbers and rows of bytes, as box's texts need them. By the session itself.
-/
import Derived.Test.YtellahclbhfdiaaGreatDoorZ07
import Derived.Test.YtellahclbhfdiaaGreatDoorZ04
import Derived.Test.YtellahclbhfdiaaGreatDoorZ08
namespace Go.Proofs.YtellahclbhfdiaaGreatDoor
set_option linter.unusedSimpArgs false
set_option linter.unusedVariables false
set_option maxRecDepth 100000
open Go.Vc Go.RowKit
/-- A number as bytes. -/
theorem or128b (n:Nat) (h:n < 18446744073709551616):bits .or .u8 (IntKind.u8.wrap (bits .and .u64 (n:Int) 127)) 128 = ((n % 128 + 128:Nat):Int):=by
 have e:bits .and .u64 (n:Int) 127 = ((n % 128:Nat):Int):=by
  rw [show (127:Int) = ((127:Nat):Int) from rfl,u64_and_nat _ _ h (by omega)]
  congr 1
  exact Nat.and_two_pow_sub_one_eq_mod n 7
 rw [e,or128]
 congr 1
 omega
/-- The reference's number. -/
theorem refNum_spec (v:Int) (w:World) (h1:-9223372036854775808 ≤ v) (h2:v ≤ 9223372036854775807) :
  Cal Tryz.prog 34 #[i64 v] w fun u w' => Bs w' u (numB (clampN v)) w.heap.size ∧ Nw w w':=by
 have hcl:=clampN_le v
 obtain ⟨n,hn⟩:∃ n,n = clampN v:=⟨_,rfl⟩
 rw [← hn] at hcl ⊢
 refine enter Tryz.mixed Tryz.func34 rfl (by kernel_rfl) ?_
 simp -dsimp [go_sem]
 refine cond_d (fun hv => ?_) (fun hv => ?_)
 ·simp -dsimp [go_sem]
  have hnv:(n:Int) = 4611686018427387904:=by rw [hn]; unfold clampN; omega
  refine loop [3,4,11,12,13,14,15,16,17,18,19,20,21] (by kernel_rfl) (fun f w' => Box2 (fun a b w' => ∃ (u:Nat) (l:List UInt8),a = .int .u64 u ∧ u ≤ n ∧ l ++ numB u = numB n ∧ Bs w' b l w.heap.size ∧ Nw w w') (f 3) (f 4) w')
   (fun f _ => (intOf (f 3)).toNat) ⟨n,[],by first | rfl | simp [upd,hnv],Nat.le_refl _,by simp,Bs.nil _ _,Kp.refl _ _⟩ ?_
  rintro f w' ⟨u,l,f3,hu,hlu,hB,hK⟩
  have hlen2:l.length + 1 ≤ 9:=by
   have hp:=numB_pos u
   have h1:=congrArg List.length hlu
   rw [List.length_append] at h1
   have h2:=numB_len9 hcl
   omega
  simp -dsimp [go_sem,f3]
  refine cond_d (fun hbig => ?_) (fun hbig => ?_)
  ·have hbig:¬ u < 128:=by omega
   have ho1:=or128b u (by omega)
   obtain ⟨x,hx⟩:∃ x,x = u % 128 + 128:=⟨_,rfl⟩
   rw [← hx] at ho1
   simp -dsimp [go_sem,f3,ho1]
   refine bs_push (x:=x) hB rfl (by omega) (by omega) hK.size ?_
   intro v' w2 hB2 hk2
   have hsh:(u:Int) / 128 = ((u / 128:Nat):Int):=by omega
   obtain ⟨y,hy⟩:∃ y,y = u / 128:=⟨_,rfl⟩
   rw [← hy] at hsh
   simp -dsimp [go_sem,f3,hsh]
   refine ⟨⟨y,l ++ [UInt8.ofNat x],rfl,by omega,?_,hB2,hK.fr hk2 (Nat.le_refl _)⟩,by simp [intOf]; omega⟩
   rw [← hlu,numB_big hbig,hx,hy,List.append_assoc]
   rfl
  ·have hbig:u < 128:=by omega
   have hwu:IntKind.u8.wrap (u:Int) = u:=by rw [IntKind.wrap_u8']; omega
   simp -dsimp [go_sem,f3,hwu]
   refine bs_push (x:=u) hB rfl (by omega) (by omega) hK.size ?_
   intro v' w2 hB2 hk2
   simp -dsimp [go_sem]
   rw [numB_small hbig] at hlu
   rw [hlu] at hB2
   exact ⟨hB2,hK.fr hk2 (Nat.le_refl _)⟩
 ·simp -dsimp [go_sem]
  refine cond_d (fun h0 => ?_) (fun h0 => ?_)
  ·have hnv:(n:Int) = v:=by rw [hn]; unfold clampN; omega
   have hw:IntKind.u64.wrap v = n:=by rw [IntKind.wrap_u64]; omega
   simp -dsimp [go_sem,hw]
   refine loop [3,4,11,12,13,14,15,16,17,18,19,20,21] (by kernel_rfl) (fun f w' => Box2 (fun a b w' => ∃ (u:Nat) (l:List UInt8),a = .int .u64 u ∧ u ≤ n ∧ l ++ numB u = numB n ∧ Bs w' b l w.heap.size ∧ Nw w w') (f 3) (f 4) w')
    (fun f _ => (intOf (f 3)).toNat) ⟨n,[],by first | rfl | simp [upd,hnv],Nat.le_refl _,by simp,Bs.nil _ _,Kp.refl _ _⟩ ?_
   rintro f w' ⟨u,l,f3,hu,hlu,hB,hK⟩
   have hlen2:l.length + 1 ≤ 9:=by
    have hp:=numB_pos u
    have h1:=congrArg List.length hlu
    rw [List.length_append] at h1
    have h2:=numB_len9 hcl
    omega
   simp -dsimp [go_sem,f3]
   refine cond_d (fun hbig => ?_) (fun hbig => ?_)
   ·have hbig:¬ u < 128:=by omega
    have ho1:=or128b u (by omega)
    obtain ⟨x,hx⟩:∃ x,x = u % 128 + 128:=⟨_,rfl⟩
    rw [← hx] at ho1
    simp -dsimp [go_sem,f3,ho1]
    refine bs_push (x:=x) hB rfl (by omega) (by omega) hK.size ?_
    intro v' w2 hB2 hk2
    have hsh:(u:Int) / 128 = ((u / 128:Nat):Int):=by omega
    obtain ⟨y,hy⟩:∃ y,y = u / 128:=⟨_,rfl⟩
    rw [← hy] at hsh
    simp -dsimp [go_sem,f3,hsh]
    refine ⟨⟨y,l ++ [UInt8.ofNat x],rfl,by omega,?_,hB2,hK.fr hk2 (Nat.le_refl _)⟩,by simp [intOf]; omega⟩
    rw [← hlu,numB_big hbig,hx,hy,List.append_assoc]
    rfl
   ·have hbig:u < 128:=by omega
    have hwu:IntKind.u8.wrap (u:Int) = u:=by rw [IntKind.wrap_u8']; omega
    simp -dsimp [go_sem,f3,hwu]
    refine bs_push (x:=u) hB rfl (by omega) (by omega) hK.size ?_
    intro v' w2 hB2 hk2
    simp -dsimp [go_sem]
    rw [numB_small hbig] at hlu
    rw [hlu] at hB2
    exact ⟨hB2,hK.fr hk2 (Nat.le_refl _)⟩
  ·have hnv:(n:Int) = 0:=by rw [hn]; unfold clampN; omega
   simp -dsimp [go_sem]
   refine loop [3,4,11,12,13,14,15,16,17,18,19,20,21] (by kernel_rfl) (fun f w' => Box2 (fun a b w' => ∃ (u:Nat) (l:List UInt8),a = .int .u64 u ∧ u ≤ n ∧ l ++ numB u = numB n ∧ Bs w' b l w.heap.size ∧ Nw w w') (f 3) (f 4) w')
    (fun f _ => (intOf (f 3)).toNat) ⟨n,[],by first | rfl | simp [upd,hnv],Nat.le_refl _,by simp,Bs.nil _ _,Kp.refl _ _⟩ ?_
   rintro f w' ⟨u,l,f3,hu,hlu,hB,hK⟩
   have hlen2:l.length + 1 ≤ 9:=by
    have hp:=numB_pos u
    have h1:=congrArg List.length hlu
    rw [List.length_append] at h1
    have h2:=numB_len9 hcl
    omega
   simp -dsimp [go_sem,f3]
   refine cond_d (fun hbig => ?_) (fun hbig => ?_)
   ·have hbig:¬ u < 128:=by omega
    have ho1:=or128b u (by omega)
    obtain ⟨x,hx⟩:∃ x,x = u % 128 + 128:=⟨_,rfl⟩
    rw [← hx] at ho1
    simp -dsimp [go_sem,f3,ho1]
    refine bs_push (x:=x) hB rfl (by omega) (by omega) hK.size ?_
    intro v' w2 hB2 hk2
    have hsh:(u:Int) / 128 = ((u / 128:Nat):Int):=by omega
    obtain ⟨y,hy⟩:∃ y,y = u / 128:=⟨_,rfl⟩
    rw [← hy] at hsh
    simp -dsimp [go_sem,f3,hsh]
    refine ⟨⟨y,l ++ [UInt8.ofNat x],rfl,by omega,?_,hB2,hK.fr hk2 (Nat.le_refl _)⟩,by simp [intOf]; omega⟩
    rw [← hlu,numB_big hbig,hx,hy,List.append_assoc]
    rfl
   ·have hbig:u < 128:=by omega
    have hwu:IntKind.u8.wrap (u:Int) = u:=by rw [IntKind.wrap_u8']; omega
    simp -dsimp [go_sem,f3,hwu]
    refine bs_push (x:=u) hB rfl (by omega) (by omega) hK.size ?_
    intro v' w2 hB2 hk2
    simp -dsimp [go_sem]
    rw [numB_small hbig] at hlu
    rw [hlu] at hB2
    exact ⟨hB2,hK.fr hk2 (Nat.le_refl _)⟩
theorem numsB_take {vs:List Int} {k:Nat} (h:k < vs.length):numsB (vs.take (k + 1)) = numsB (vs.take k) ++ numB (clampN vs[k]):=by
 unfold numsB
 rw [List.take_succ_eq_append_getElem h,List.flatMap_append]
 simp
theorem refNums_spec (vs:List Int) (B:Option Addr) (d:Nat) (w:World) (hr:Rd w B (vs.map i64)) (hw:∀ v ∈ vs,-9223372036854775808 ≤ v ∧ v ≤ 9223372036854775807) (hl:9 * vs.length ≤ 140737488355328) :
  Cal Tryz.prog 36 #[.slice B vs.length d] w fun u w' => Bs w' u (numsB vs) w.heap.size ∧ Nw w w':=by
 refine enter Tryz.mixed Tryz.func36 rfl (by kernel_rfl) ?_
 simp -dsimp [go_sem]
 refine loop [3,4,5,6,7,8,9,10,11,12,13,14,15,16,17] (by kernel_rfl) (fun f w' => Box2 (fun a b w' => ∃ k:Nat,k ≤ vs.length ∧ b = i64 k ∧ Bs w' a (numsB (vs.take k)) w.heap.size ∧ Nw w w') (f 3) (f 4) w')
  (fun f _ => vs.length - (intOf (f 4)).toNat) ⟨0,Nat.zero_le _,rfl,Bs.nil _ _,Kp.refl _ _⟩ ?_
 rintro f w' ⟨k,hk,f4,hB,hK⟩
 simp -dsimp [go_sem,f4]
 refine cond_d (fun hlt => ?_) (fun hlt => ?_)
 ·have hlt:k < vs.length:=by omega
  obtain ⟨b,o,rfl,hcell⟩:=hr k (i64 vs[k]) (by simp [hlt])
  have hcell':=hK.cell_some hcell fun h => h
  have hlen:=numsB_len (vs.take k)
  rw [List.length_take,Nat.min_eq_left hk] at hlen
  have hvk:=hw vs[k] (List.getElem_mem hlt)
  have hn9:=numB_len9 (clampN_le vs[k])
  simp -dsimp [go_sem,f4,hlt,hcell']
  refine call (refNum_spec vs[k] w' hvk.1 hvk.2) ?_
  rintro v w1 ⟨⟨A1,c1,rfl,ho1,hA1⟩,hkn⟩
  simp -dsimp [go_sem]
  refine bs_app (hB.nw hkn) ho1.rd (by omega) (by have:=hK.size; have:=hkn.size; omega) ?_
  intro v2 w2 hB2 hk2
  have hk1:IntKind.i64.wrap ((k:Int) + 1) = ((k + 1:Nat):Int):=w64 (by omega) (by omega)
  rw [← numsB_take hlt] at hB2
  obtain ⟨k1,hk1'⟩:∃ k1,k1 = k + 1:=⟨_,rfl⟩
  rw [← hk1'] at hk1 hB2
  simp -dsimp [go_sem,f4,hk1]
  exact ⟨⟨k1,by omega,rfl,hB2,Nw.fr (hK.nw hkn) hk2 (Nat.le_refl _)⟩,by simp [intOf]; omega⟩
 ·obtain rfl:k = vs.length:=by omega
  simp -dsimp [go_sem]
  rw [List.take_length] at hB
  exact ⟨hB,hK⟩
theorem refBytes_spec (l:List UInt8) (A:Option Addr) (c:Nat) (w:World) (hr:Rd w A (l.map u8)) (hl:l.length ≤ 100000000000000) :
  Cal Tryz.prog 37 #[.slice A l.length c] w fun u w' => Bs w' u (rowB l) w.heap.size ∧ Nw w w':=by
 refine enter Tryz.mixed Tryz.func37 rfl (by kernel_rfl) ?_
 simp -dsimp [go_sem]
 refine call (refNum_spec (l.length:Int) w (by omega) (by omega)) ?_
 rintro v w1 ⟨hB,hk⟩
 have e:clampN (l.length:Int) = l.length:=by unfold clampN; omega
 rw [e] at hB
 have h9:=numB_len9 (n:=l.length) (by omega)
 simp -dsimp [go_sem]
 refine bs_app hB (hr.nw hk) (by omega) hk.size ?_
 intro v2 w2 hB2 hk2
 simp -dsimp [go_sem]
 exact ⟨hB2,hk.fr hk2 (Nat.le_refl _)⟩
end Go.Proofs.YtellahclbhfdiaaGreatDoor
