/-
  The reference's numbers and rows of bytes, as box's texts need them. By the session itself. The reference's Encode walked. By the session itself. A box's name told by ours. By the session itself. box.Is walked. By the session itself. box.Encode walked. By the session itself.
-/
import Derived.Test.YtellahclbhfdiaaGreatDoorQ07
import Derived.Test.YtellahclbhfdiaaGreatDoorQ04
import Derived.Test.YtellahclbhfdiaaGreatDoorQ08
import Derived.Laws.IdiomStrings
import Derived.Test.YtellahclbhfdiaaGreatDoorQ03
import Derived.Shelf.Strings.SlTrimAscii
namespace Go.Proofs.YtellahclbhfdiaaGreatDoor
set_option linter.unusedSimpArgs false
set_option linter.unusedVariables false
set_option maxRecDepth 100000
open Go.Vc Go.RowKit
/-- A number as bytes. -/
theorem or128b (n:Nat) (h:n < 18446744073709551616):bits .or .u8 (IntKind.u8.wrap (bits .and .u64 (n:Int) 127)) 128 = ((n % 128 + 128:Nat):Int):=by
 have e:bits .and .u64 (n:Int) 127 = ((n % 128:Nat):Int):=by
  rw [show (127:Int) = ((127:Nat):Int) from rfl,u64_and_nat _ _ h (by omega)]
  congr 1
  exact Nat.and_two_pow_sub_one_eq_mod n 7
 rw [e,or128]
 congr 1
 omega
/-- The reference's number. -/
theorem refNum_spec (v:Int) (w:World) (h1:-9223372036854775808 ≤ v) (h2:v ≤ 9223372036854775807) :
  Cal Tryz.prog 34 #[i64 v] w fun u w' => Bs w' u (numB (clampN v)) w.heap.size ∧ Nw w w':=by
 have hcl:=clampN_le v
 obtain ⟨n,hn⟩:∃ n,n = clampN v:=⟨_,rfl⟩
 rw [← hn] at hcl ⊢
 refine enter Tryz.mixed Tryz.func34 rfl (by kernel_rfl) ?_
 simp -dsimp [go_sem]
 refine cond_d (fun hv => ?_) (fun hv => ?_)
 ·simp -dsimp [go_sem]
  have hnv:(n:Int) = 4611686018427387904:=by rw [hn]; unfold clampN; omega
  refine loop [3,4,11,12,13,14,15,16,17,18,19,20,21] (by kernel_rfl) (fun f w' => Box2 (fun a b w' => ∃ (u:Nat) (l:List UInt8),a = .int .u64 u ∧ u ≤ n ∧ l ++ numB u = numB n ∧ Bs w' b l w.heap.size ∧ Nw w w') (f 3) (f 4) w')
   (fun f _ => (intOf (f 3)).toNat) ⟨n,[],by first | rfl | simp [upd,hnv],Nat.le_refl _,by simp,Bs.nil _ _,Kp.refl _ _⟩ ?_
  rintro f w' ⟨u,l,f3,hu,hlu,hB,hK⟩
  have hlen2:l.length + 1 ≤ 9:=by
   have hp:=numB_pos u
   have h1:=congrArg List.length hlu
   rw [List.length_append] at h1
   have h2:=numB_len9 hcl
   omega
  simp -dsimp [go_sem,f3]
  refine cond_d (fun hbig => ?_) (fun hbig => ?_)
  ·have hbig:¬ u < 128:=by omega
   have ho1:=or128b u (by omega)
   obtain ⟨x,hx⟩:∃ x,x = u % 128 + 128:=⟨_,rfl⟩
   rw [← hx] at ho1
   simp -dsimp [go_sem,f3,ho1]
   refine bs_push (x:=x) hB rfl (by omega) (by omega) hK.size ?_
   intro v' w2 hB2 hk2
   have hsh:(u:Int) / 128 = ((u / 128:Nat):Int):=by omega
   obtain ⟨y,hy⟩:∃ y,y = u / 128:=⟨_,rfl⟩
   rw [← hy] at hsh
   simp -dsimp [go_sem,f3,hsh]
   refine ⟨⟨y,l ++ [UInt8.ofNat x],rfl,by omega,?_,hB2,hK.fr hk2 (Nat.le_refl _)⟩,by simp [intOf]; omega⟩
   rw [← hlu,numB_big hbig,hx,hy,List.append_assoc]
   rfl
  ·have hbig:u < 128:=by omega
   have hwu:IntKind.u8.wrap (u:Int) = u:=by rw [IntKind.wrap_u8']; omega
   simp -dsimp [go_sem,f3,hwu]
   refine bs_push (x:=u) hB rfl (by omega) (by omega) hK.size ?_
   intro v' w2 hB2 hk2
   simp -dsimp [go_sem]
   rw [numB_small hbig] at hlu
   rw [hlu] at hB2
   exact ⟨hB2,hK.fr hk2 (Nat.le_refl _)⟩
 ·simp -dsimp [go_sem]
  refine cond_d (fun h0 => ?_) (fun h0 => ?_)
  ·have hnv:(n:Int) = v:=by rw [hn]; unfold clampN; omega
   have hw:IntKind.u64.wrap v = n:=by rw [IntKind.wrap_u64]; omega
   simp -dsimp [go_sem,hw]
   refine loop [3,4,11,12,13,14,15,16,17,18,19,20,21] (by kernel_rfl) (fun f w' => Box2 (fun a b w' => ∃ (u:Nat) (l:List UInt8),a = .int .u64 u ∧ u ≤ n ∧ l ++ numB u = numB n ∧ Bs w' b l w.heap.size ∧ Nw w w') (f 3) (f 4) w')
    (fun f _ => (intOf (f 3)).toNat) ⟨n,[],by first | rfl | simp [upd,hnv],Nat.le_refl _,by simp,Bs.nil _ _,Kp.refl _ _⟩ ?_
   rintro f w' ⟨u,l,f3,hu,hlu,hB,hK⟩
   have hlen2:l.length + 1 ≤ 9:=by
    have hp:=numB_pos u
    have h1:=congrArg List.length hlu
    rw [List.length_append] at h1
    have h2:=numB_len9 hcl
    omega
   simp -dsimp [go_sem,f3]
   refine cond_d (fun hbig => ?_) (fun hbig => ?_)
   ·have hbig:¬ u < 128:=by omega
    have ho1:=or128b u (by omega)
    obtain ⟨x,hx⟩:∃ x,x = u % 128 + 128:=⟨_,rfl⟩
    rw [← hx] at ho1
    simp -dsimp [go_sem,f3,ho1]
    refine bs_push (x:=x) hB rfl (by omega) (by omega) hK.size ?_
    intro v' w2 hB2 hk2
    have hsh:(u:Int) / 128 = ((u / 128:Nat):Int):=by omega
    obtain ⟨y,hy⟩:∃ y,y = u / 128:=⟨_,rfl⟩
    rw [← hy] at hsh
    simp -dsimp [go_sem,f3,hsh]
    refine ⟨⟨y,l ++ [UInt8.ofNat x],rfl,by omega,?_,hB2,hK.fr hk2 (Nat.le_refl _)⟩,by simp [intOf]; omega⟩
    rw [← hlu,numB_big hbig,hx,hy,List.append_assoc]
    rfl
   ·have hbig:u < 128:=by omega
    have hwu:IntKind.u8.wrap (u:Int) = u:=by rw [IntKind.wrap_u8']; omega
    simp -dsimp [go_sem,f3,hwu]
    refine bs_push (x:=u) hB rfl (by omega) (by omega) hK.size ?_
    intro v' w2 hB2 hk2
    simp -dsimp [go_sem]
    rw [numB_small hbig] at hlu
    rw [hlu] at hB2
    exact ⟨hB2,hK.fr hk2 (Nat.le_refl _)⟩
  ·have hnv:(n:Int) = 0:=by rw [hn]; unfold clampN; omega
   simp -dsimp [go_sem]
   refine loop [3,4,11,12,13,14,15,16,17,18,19,20,21] (by kernel_rfl) (fun f w' => Box2 (fun a b w' => ∃ (u:Nat) (l:List UInt8),a = .int .u64 u ∧ u ≤ n ∧ l ++ numB u = numB n ∧ Bs w' b l w.heap.size ∧ Nw w w') (f 3) (f 4) w')
    (fun f _ => (intOf (f 3)).toNat) ⟨n,[],by first | rfl | simp [upd,hnv],Nat.le_refl _,by simp,Bs.nil _ _,Kp.refl _ _⟩ ?_
   rintro f w' ⟨u,l,f3,hu,hlu,hB,hK⟩
   have hlen2:l.length + 1 ≤ 9:=by
    have hp:=numB_pos u
    have h1:=congrArg List.length hlu
    rw [List.length_append] at h1
    have h2:=numB_len9 hcl
    omega
   simp -dsimp [go_sem,f3]
   refine cond_d (fun hbig => ?_) (fun hbig => ?_)
   ·have hbig:¬ u < 128:=by omega
    have ho1:=or128b u (by omega)
    obtain ⟨x,hx⟩:∃ x,x = u % 128 + 128:=⟨_,rfl⟩
    rw [← hx] at ho1
    simp -dsimp [go_sem,f3,ho1]
    refine bs_push (x:=x) hB rfl (by omega) (by omega) hK.size ?_
    intro v' w2 hB2 hk2
    have hsh:(u:Int) / 128 = ((u / 128:Nat):Int):=by omega
    obtain ⟨y,hy⟩:∃ y,y = u / 128:=⟨_,rfl⟩
    rw [← hy] at hsh
    simp -dsimp [go_sem,f3,hsh]
    refine ⟨⟨y,l ++ [UInt8.ofNat x],rfl,by omega,?_,hB2,hK.fr hk2 (Nat.le_refl _)⟩,by simp [intOf]; omega⟩
    rw [← hlu,numB_big hbig,hx,hy,List.append_assoc]
    rfl
   ·have hbig:u < 128:=by omega
    have hwu:IntKind.u8.wrap (u:Int) = u:=by rw [IntKind.wrap_u8']; omega
    simp -dsimp [go_sem,f3,hwu]
    refine bs_push (x:=u) hB rfl (by omega) (by omega) hK.size ?_
    intro v' w2 hB2 hk2
    simp -dsimp [go_sem]
    rw [numB_small hbig] at hlu
    rw [hlu] at hB2
    exact ⟨hB2,hK.fr hk2 (Nat.le_refl _)⟩
theorem numsB_take {vs:List Int} {k:Nat} (h:k < vs.length):numsB (vs.take (k + 1)) = numsB (vs.take k) ++ numB (clampN vs[k]):=by
 unfold numsB
 rw [List.take_succ_eq_append_getElem h,List.flatMap_append]
 simp
theorem refNums_spec (vs:List Int) (B:Option Addr) (d:Nat) (w:World) (hr:Rd w B (vs.map i64)) (hw:∀ v ∈ vs,-9223372036854775808 ≤ v ∧ v ≤ 9223372036854775807) (hl:9 * vs.length ≤ 140737488355328) :
  Cal Tryz.prog 36 #[.slice B vs.length d] w fun u w' => Bs w' u (numsB vs) w.heap.size ∧ Nw w w':=by
 refine enter Tryz.mixed Tryz.func36 rfl (by kernel_rfl) ?_
 simp -dsimp [go_sem]
 refine loop [3,4,5,6,7,8,9,10,11,12,13,14,15,16,17] (by kernel_rfl) (fun f w' => Box2 (fun a b w' => ∃ k:Nat,k ≤ vs.length ∧ b = i64 k ∧ Bs w' a (numsB (vs.take k)) w.heap.size ∧ Nw w w') (f 3) (f 4) w')
  (fun f _ => vs.length - (intOf (f 4)).toNat) ⟨0,Nat.zero_le _,rfl,Bs.nil _ _,Kp.refl _ _⟩ ?_
 rintro f w' ⟨k,hk,f4,hB,hK⟩
 simp -dsimp [go_sem,f4]
 refine cond_d (fun hlt => ?_) (fun hlt => ?_)
 ·have hlt:k < vs.length:=by omega
  obtain ⟨b,o,rfl,hcell⟩:=hr k (i64 vs[k]) (by simp [hlt])
  have hcell':=hK.cell_some hcell fun h => h
  have hlen:=numsB_len (vs.take k)
  rw [List.length_take,Nat.min_eq_left hk] at hlen
  have hvk:=hw vs[k] (List.getElem_mem hlt)
  have hn9:=numB_len9 (clampN_le vs[k])
  simp -dsimp [go_sem,f4,hlt,hcell']
  refine call (refNum_spec vs[k] w' hvk.1 hvk.2) ?_
  rintro v w1 ⟨⟨A1,c1,rfl,ho1,hA1⟩,hkn⟩
  simp -dsimp [go_sem]
  refine bs_app (hB.nw hkn) ho1.rd (by omega) (by have:=hK.size; have:=hkn.size; omega) ?_
  intro v2 w2 hB2 hk2
  have hk1:IntKind.i64.wrap ((k:Int) + 1) = ((k + 1:Nat):Int):=w64 (by omega) (by omega)
  rw [← numsB_take hlt] at hB2
  obtain ⟨k1,hk1'⟩:∃ k1,k1 = k + 1:=⟨_,rfl⟩
  rw [← hk1'] at hk1 hB2
  simp -dsimp [go_sem,f4,hk1]
  exact ⟨⟨k1,by omega,rfl,hB2,Nw.fr (hK.nw hkn) hk2 (Nat.le_refl _)⟩,by simp [intOf]; omega⟩
 ·obtain rfl:k = vs.length:=by omega
  simp -dsimp [go_sem]
  rw [List.take_length] at hB
  exact ⟨hB,hK⟩
theorem refBytes_spec (l:List UInt8) (A:Option Addr) (c:Nat) (w:World) (hr:Rd w A (l.map u8)) (hl:l.length ≤ 100000000000000) :
  Cal Tryz.prog 37 #[.slice A l.length c] w fun u w' => Bs w' u (rowB l) w.heap.size ∧ Nw w w':=by
 refine enter Tryz.mixed Tryz.func37 rfl (by kernel_rfl) ?_
 simp -dsimp [go_sem]
 refine call (refNum_spec (l.length:Int) w (by omega) (by omega)) ?_
 rintro v w1 ⟨hB,hk⟩
 have e:clampN (l.length:Int) = l.length:=by unfold clampN; omega
 rw [e] at hB
 have h9:=numB_len9 (n:=l.length) (by omega)
 simp -dsimp [go_sem]
 refine bs_app hB (hr.nw hk) (by omega) hk.size ?_
 intro v2 w2 hB2 hk2
 simp -dsimp [go_sem]
 exact ⟨hB2,hk.fr hk2 (Nat.le_refl _)⟩
set_option maxHeartbeats 2000000
theorem conv_bytes {P:Program} {src dst e:TypeId} (hs:P.underlying src = some .string) (hd:P.underlying dst = some (.slice e)) (he:P.underlying e = some (.int .u8)) (s:ByteArray) (w:World) :
  ∃ A c w',(convert src dst (.string s)).run P w = .ok (.slice A s.data.toList.length c) w' ∧ Nw w w' ∧ Rd w' A (s.data.toList.map u8):=by
 refine ⟨_,_,_,run_bytes_of_string w src dst e s hs hd he,((Kp.refl _ w).drew).alloc _,fun j u hj => ⟨_,_,rfl,?_⟩⟩
 have hl:j < s.data.toList.length:=by simpa using (List.getElem?_eq_some_iff.1 hj).1
 rw [List.getElem?_map,List.getElem?_eq_getElem hl] at hj
 simp only [Option.map_some,Option.some.injEq] at hj
 subst hj
 have hl':j < s.data.size:=by simpa using hl
 have hl2:j < s.size:=hl'
 simp [World.cell?,World.alloc,World.drew,-World.alloc_eq,-World.drew_eq,bytesRow,Array.getElem?_append,hl',hl2,u8]
def encM (m:Msg):List UInt8:=numsB [m.uid,m.flags,m.date] ++ rowB m.body
def encX (b:Bx):List UInt8:=rowB b.name.data.toList ++ numsB [b.val,b.next,(b.L.length:Int)] ++ b.L.flatMap encM
def EncR (v:Value) (w:World) (b:Bx) (B:Nat):Prop:=(isB b = true ∧ ∃ u,v = .tuple #[u,i64 0] ∧ Bs w u (encX b) B) ∨ (isB b = false ∧ v = .tuple #[.slice none 0 0,i64 1])
theorem rowB_lenq {l:List UInt8} (h:l.length ≤ 100000000000000):(rowB l).length ≤ l.length + 9:=by
 unfold rowB
 have:=numB_len9 (n:=l.length) (by omega)
 rw [List.length_append]; omega
theorem encM_len {m:Msg} (h:m.body.length ≤ 1200):(encM m).length ≤ 1236:=by
 unfold encM
 have h1:=numsB_len [m.uid,m.flags,m.date]
 have h2:=rowB_lenq (l:=m.body) (by omega)
 rw [List.length_append]
 simp only [List.length_cons,List.length_nil] at h1
 omega
theorem encMs_len:∀ (l:List Msg),(∀ m ∈ l,m.body.length ≤ 1200) → (l.flatMap encM).length ≤ 1236 * l.length
 | [],_ => by simp
 | m :: l,h => by
  have:=encMs_len l fun m hm => h m (List.mem_cons_of_mem _ hm)
  have:=encM_len (h m (List.mem_cons_self ..))
  rw [List.flatMap_cons,List.length_append,List.length_cons]; omega
set_option maxHeartbeats 1000000
theorem bytes_eqq (p q:List UInt8):((⟨p.toArray⟩:ByteArray) == ⟨q.toArray⟩) = decide (p = q):=by
 rw [Bool.eq_iff_iff,MapKept.bytes_beq,decide_eq_true_iff]
 constructor
 ·intro h
  injection h with h
  exact List.toArray_inj h
 ·rintro rfl; rfl
theorem dw_all (p:UInt8 → Bool):∀ l:List UInt8,(∀ x ∈ l.dropWhile p,p x = true) → ∀ x ∈ l,p x = true
 | [],_,x,hx => by cases hx
 | a :: t,h,x,hx => by
  by_cases ha:p a = true
  ·rw [List.dropWhile_cons_of_pos ha] at h
   rcases List.mem_cons.1 hx with rfl | hx
   ·exact ha
   ·exact dw_all p t h x hx
  ·rw [List.dropWhile_cons_of_neg ha] at h
   exact h x hx
theorem dw_nil (p:UInt8 → Bool):∀ l:List UInt8,l.dropWhile p = [] → ∀ x ∈ l,p x = true:=fun l h => dw_all p l fun x hx => by rw [h] at hx; cases hx
theorem dw_of (p:UInt8 → Bool):∀ l:List UInt8,(∀ x ∈ l,p x = true) → l.dropWhile p = []
 | [],_ => rfl
 | a :: t,h => by rw [List.dropWhile_cons_of_pos (h a (List.mem_cons_self ..))]; exact dw_of p t fun x hx => h x (List.mem_cons_of_mem _ hx)
theorem trim_nil (l cs:List UInt8):Lib.trimS l cs = [] ↔ l.all (cs.contains ·) = true:=by
 unfold Lib.trimS Lib.trimLeftS Lib.trimRightS
 rw [List.all_eq_true]
 constructor
 ·intro h x hx
  have h1:=dw_nil _ _ h
  have h2:=dw_all (cs.contains ·) l.reverse fun x hx => h1 x (List.mem_reverse.2 hx)
  exact h2 x (List.mem_reverse.2 hx)
 ·intro h
  have h1:=dw_of (cs.contains ·) l.reverse fun x hx => h x (List.mem_reverse.1 hx)
  rw [h1]
  rfl
def signs:List UInt8:=[97,98,99,100,101,102,103,104,105,106,107,108,109,110,111,112,113,114,115,116,117,118,119,120,121,122,48,49,50,51,52,53,54,55,56,57]
theorem signs_ok (c:UInt8):signs.contains c = okC1 c:=by
 have h:((List.range 256).all fun n => signs.contains (UInt8.ofNat n) == okC1 (UInt8.ofNat n)) = true:=by decide +kernel
 have h2:=List.all_eq_true.1 h c.toNat (List.mem_range.2 c.toNat_lt)
 rw [UInt8.ofNat_toNat] at h2
 simpa using h2
theorem trim_spec (s:ByteArray) (w:World) (hl:s.size ≤ 9223372036854775807) :
  Cal Tryz.prog 138 #[.string s,.string ⟨#[97,98,99,100,101,102,103,104,105,106,107,108,109,110,111,112,113,114,115,116,117,118,119,120,121,122,48,49,50,51,52,53,54,55,56,57]⟩] w fun v w' => v = .string ⟨(Lib.trimS s.data.toList signs).toArray⟩ ∧ Nw w w':=by
 have h:=Go.Proofs.Any.strings_Trim_laid Tryz.trim138 (by kernel_rfl) s ⟨#[97,98,99,100,101,102,103,104,105,106,107,108,109,110,111,112,113,114,115,116,117,118,119,120,121,122,48,49,50,51,52,53,54,55,56,57]⟩ w hl (by decide) (Go.Proofs.ascii_of_all (by decide))
 refine Calls.mono h ?_
 rintro e w' ⟨rfl,b1,b2,b3,b4,b5⟩
 exact ⟨_,rfl,rfl,⟨b1,b2,b3,b4,fun k hk _ => b5 k hk⟩⟩
theorem bname_spec (s:ByteArray) (w:World) (hl:s.size ≤ 9223372036854775807) :
  Cal Tryz.prog 75 #[.string s] w fun v w' => v = .bool (nameOk s) ∧ Nw w w':=by
 have htr:=trim_spec s w hl
 have hn:nameOk s = (decide (Lib.trimS s.data.toList signs = []) && decide (1 ≤ s.size) && decide (s.size ≤ 12)):=by
  unfold nameOk
  congr 2
  rw [Bool.eq_iff_iff,decide_eq_true_iff,trim_nil,show (fun c => signs.contains c) = okC1 from funext signs_ok]
 have hsz:s.size = s.data.toList.length:=by rw [Array.length_toList]; rfl
 obtain ⟨l,hl'⟩:∃ l,l = s.data.toList:=⟨_,rfl⟩
 have hs:s = ⟨l.toArray⟩:=by rw [hl']
 rw [← hl'] at hn hsz htr
 rw [hsz] at hn
 generalize hno:nameOk s = no at *
 rw [hs] at htr ⊢
 clear hs hl' hno
 refine enter Tryz.mixed Tryz.func75 rfl (by kernel_rfl) ?_
 by_cases h0:l.length = 0
 ·have hs:l = []:=List.eq_nil_of_length_eq_zero h0
  subst hs
  simp -dsimp [go_sem]
  exact ⟨by rw [hn]; simp,Kp.refl _ _⟩
 have hne:l.isEmpty = false:=by cases l <;> simp_all
 by_cases h12:l.length ≤ 12
 ·have h12':(l.length:Int) ≤ 12:=by omega
  have hn:no = decide (Lib.trimS l signs = []):=by rw [hn,decide_eq_true h12,decide_eq_true (show 1 ≤ l.length by omega)]; simp
  have hb:((⟨(Lib.trimS l signs).toArray⟩:ByteArray) == ⟨#[]⟩) = decide (Lib.trimS l signs = []):=bytes_eqq _ []
  simp -dsimp [go_sem,hne,h12,h12']
  refine call htr ?_
  rintro v w1 ⟨rfl,hk1⟩
  generalize Lib.trimS l signs = r at *
  simp -dsimp [go_sem]
  exact ⟨by rw [hn]; cases r <;> simp,hk1⟩
 ·have h12':¬ (l.length:Int) ≤ 12:=by omega
  have hn:no = false:=by rw [hn,decide_eq_false h12,Bool.and_false]
  simp -dsimp [go_sem,hne,h12,h12']
  exact ⟨hn,Kp.refl _ _⟩
theorem bin_spec (n lo hi:Int) (w:World):Cal Tryz.prog 147 #[i64 n,i64 lo,i64 hi] w fun v w' => v = .bool (okF n lo hi) ∧ w' = w:=by
 refine enter Tryz.mixed Tryz.func147 rfl (by kernel_rfl) ?_
 by_cases h1:lo ≤ n
 ·simp -dsimp [go_sem,h1,okF]
 ·simp -dsimp [go_sem,h1,okF]
theorem bis_spec (v:Value) (b:Bx) (S:Nat → Prop) (w:World) (h:RB w v b S) (hn:b.name.size ≤ 9223372036854775807) (hll:b.L.length ≤ 9223372036854775807) :
  Cal Tryz.prog 203 #[v] w fun v' w' => v' = .bool (isB b) ∧ Nw w w':=by
 obtain ⟨A,c,q,rfl,hq,hc,hr,ho,hb⟩:=h
 have hql:q.length = b.L.length:=by rw [← hq,List.length_map]
 refine enter Tryz.mixed Tryz.func203 rfl (by kernel_rfl) ?_
 have k0:Nw w (w.alloc (.cells #[.string b.name,i64 b.val,i64 b.next,.slice A b.L.length c] 111)):=(Kp.refl _ _).alloc _
 have hb0:Blk (w.alloc (.cells #[.string b.name,i64 b.val,i64 b.next,.slice A b.L.length c] 111)) w.heap.size 111 #[.string b.name,i64 b.val,i64 b.next,.slice A b.L.length c]:=Blk.new _ _ _
 obtain ⟨x,hx⟩:∃ x,x = w.heap.size:=⟨_,rfl⟩
 simp -dsimp [go_sem]
 rw [← hx] at hb0 ⊢
 generalize w.alloc (.cells #[.string b.name,i64 b.val,i64 b.next,.slice A b.L.length c] 111) = wa at *
 refine loop [2,3,5,9,10,11,12,13,14,15,16,17,18,19,20,21,22,23,24,25,26,27,28,29,30,31,32,33,34,35,36,37,38,39,40,41,42,43,44] (by kernel_rfl)
  (fun f w' => Box2 (fun a l w' => ∃ i:Nat,a = i64 i ∧ i ≤ b.L.length ∧ msgsOk 0 b.next (b.L.take i) = true ∧ l = i64 (lastU (b.L.take i)) ∧ Nw wa w') (f 9) (f 3) w') (fun f _ => b.L.length - (intOf (f 9)).toNat)
  ⟨0,rfl,by omega,rfl,rfl,Kp.refl _ _⟩ ?_
 rintro f w' ⟨i,f9,hi,hok,f3,hK⟩
 have c0:=(hb0.nw hK).cell 0
 have c1:=(hb0.nw hK).cell 1
 have c2:=(hb0.nw hK).cell 2
 have c3:=(hb0.nw hK).cell 3
 by_cases hlt:i < b.L.length
 ·have hi1:IntKind.i64.wrap ((i:Int) + 1) = ((i + 1:Nat):Int):=by rw [w64 (by omega) (by omega)]; omega
  obtain ⟨i1,hi1'⟩:∃ i1,i1 = i + 1:=⟨_,rfl⟩
  have htk:b.L.take i1 = b.L.take i ++ [b.L[i]]:=by rw [hi1']; exact List.take_succ_eq_append_getElem hlt
  rw [← hi1'] at hi1
  have hltq:i < q.length:=by omega
  obtain ⟨g,o,rfl,e0,e1,e2,e3⟩:=msg_at ((hr.nw k0).nw hK) hltq
  have hqi:q[i].1 = b.L[i]:=by simp only [← hq,List.getElem_map]
  have hbq:=hb _ (List.getElem_mem hltq)
  rw [hqi] at e0 e1 e2 hbq
  have hnext:msgsOk 0 b.next (b.L.take i1) = msgsOk (lastU (b.L.take i)) b.next [b.L[i]]:=by rw [htk,msgsOk_app,hok]; rfl
  have hfail:msgsOk (lastU (b.L.take i)) b.next [b.L[i]] = false → isB b = false:=fun h => by
   have h2:b.L = b.L.take i1 ++ b.L.drop i1:=(List.take_append_drop i1 b.L).symm
   have h3:msgsOk 0 b.next b.L = false:=by
    conv => lhs; rw [h2]
    rw [msgsOk_app,hnext,h]; rfl
   unfold isB; rw [h3]; simp
  have hlast:lastU (b.L.take i1) = b.L[i].uid:=by unfold lastU; rw [htk,List.getLast?_concat]; rfl
  generalize lastU (b.L.take i) = last at *
  generalize b.L[i] = m at *
  generalize q[i].2 = mv at *
  obtain ⟨Bm,dm,rfl,hrm,hom,hdm⟩:=hbq
  have ka:Nw w' (w'.alloc (.cells #[i64 m.uid,i64 m.flags,i64 m.date,.slice Bm m.body.length dm] 186)):=(Kp.refl _ _).alloc _
  have hq4:Blk (w'.alloc (.cells #[i64 m.uid,i64 m.flags,i64 m.date,.slice Bm m.body.length dm] 186)) w'.heap.size 186 #[i64 m.uid,i64 m.flags,i64 m.date,.slice Bm m.body.length dm]:=Blk.new _ _ _
  have y0:=hq4.cell 0
  have y1:=hq4.cell 1
  have y2:=hq4.cell 2
  have y3:=hq4.cell 3
  have c2a:=((hb0.nw hK).nw ka).cell 2
  have hKa:=hK.nw ka
  have hone:msgsOk last b.next [m] = (decide (last < m.uid) && decide (m.uid < b.next) && okF m.flags 0 31 && okF m.date 0 1073741824 && decide (m.body.length ≤ 1200)):=by simp [msgsOk]
  rw [hone] at hnext hfail
  obtain ⟨z,hz⟩:∃ z,z = w'.heap.size:=⟨_,rfl⟩
  rw [← hz] at hq4 y0 y1 y2 y3
  by_cases g1:m.uid ≤ last
  ·have hf:=hfail (by simp; omega)
   simp -dsimp [go_sem,f9,f3,hlt,e0,e1,e2,e3,y0,g1,hf]
   exact k0.nw hKa
  ·by_cases g2:b.next ≤ m.uid
   ·have hf:=hfail (by simp; omega)
    simp -dsimp [go_sem,f9,f3,hlt,e0,e1,e2,e3,y0,g1,g2,c2,c2a,hf]
    exact k0.nw hKa
   ·simp -dsimp [go_sem,f9,f3,hlt,e0,e1,e2,e3,y0,y1,g1,g2,c2,c2a]
    rw [← hz]
    generalize w'.alloc (.cells #[i64 m.uid,i64 m.flags,i64 m.date,.slice Bm m.body.length dm] 186) = w4 at *
    refine call (bin_spec m.flags 0 31 w4) ?_
    rintro v5 w5 ⟨rfl,rfl⟩
    cases hfl:okF m.flags 0 31 with
    | false =>
     have hf:=hfail (by rw [hfl]; simp)
     simp -dsimp [go_sem,hf]
     exact k0.nw hKa
    | true =>
     simp -dsimp [go_sem,y2]
     refine call (bin_spec m.date 0 1073741824 _) ?_
     rintro v6 w6 ⟨rfl,rfl⟩
     cases hdl:okF m.date 0 1073741824 with
     | false =>
      have hf:=hfail (by rw [hdl]; simp)
      simp -dsimp [go_sem,hf]
      exact k0.nw hKa
     | true =>
      by_cases g5:1200 < m.body.length
      ·have g5':(1200:Int) < (m.body.length:Int):=by omega
       have hf:=hfail (by simp; omega)
       simp -dsimp [go_sem,y3,g5,g5',hf]
       exact k0.nw hKa
      ·have g5':¬ (1200:Int) < (m.body.length:Int):=by omega
       simp -dsimp [go_sem,y0,y3,g5,g5',f9,hi1]
       refine ⟨⟨i1,rfl,by omega,?_,by rw [hlast],hKa⟩,by simp [intOf]; omega⟩
       rw [hnext,hfl,hdl]; simp; omega
 ·have hii:b.L.take i = b.L:=List.take_of_length_le (by omega)
  rw [hii] at hok
  simp -dsimp [go_sem,f9,hlt,c0]
  refine call (bname_spec b.name _ hn) ?_
  rintro v5 w5 ⟨rfl,hk5⟩
  have c15:=hk5.cell_some c1 fun h => h
  have c25:=hk5.cell_some c2 fun h => h
  have c35:=hk5.cell_some c3 fun h => h
  have k5:=(k0.nw hK).nw hk5
  cases hnm:nameOk b.name with
  | false =>
   simp -dsimp [go_sem,isB,hnm]
   exact k5
  | true =>
   simp -dsimp [go_sem,c15]
   refine call (bin_spec b.val 1 1048576 _) ?_
   rintro v6 w6 ⟨rfl,rfl⟩
   cases hvl:okF b.val 1 1048576 with
   | false =>
    simp -dsimp [go_sem,isB,hvl]
    exact k5
   | true =>
    simp -dsimp [go_sem,c25]
    refine call (bin_spec b.next 1 1048576 _) ?_
    rintro v7 w7 ⟨rfl,rfl⟩
    cases hnx:okF b.next 1 1048576 with
    | false =>
     simp -dsimp [go_sem,isB,hnx]
     exact k5
    | true =>
     by_cases h24:b.L.length ≤ 24
     ·have h24':(b.L.length:Int) ≤ 24:=by omega
      simp -dsimp [go_sem,c35,isB,hnm,hvl,hnx,hok,h24,h24']
      exact k5
     ·have h24':¬ (b.L.length:Int) ≤ 24:=by omega
      simp -dsimp [go_sem,c35,isB,hnm,hvl,hnx,hok,h24,h24']
      exact k5
set_option maxHeartbeats 2000000
theorem conv_bytes2 {P:Program} {src dst e:TypeId} (hs:P.underlying src = some .string) (hd:P.underlying dst = some (.slice e)) (he:P.underlying e = some (.int .u8)) (s:ByteArray) (w:World) :
  ∃ c w',(convert src dst (.string s)).run P w = .ok (.slice (some ⟨w.heap.size,0,none⟩) s.data.toList.length c) w' ∧ s.data.toList.length ≤ c ∧ Nw w w' ∧ Rd w' (some ⟨w.heap.size,0,none⟩) (s.data.toList.map u8) ∧ w.heap.size < w'.heap.size:=by
 refine ⟨_,_,run_bytes_of_string w src dst e s hs hd he,?_,((Kp.refl _ w).drew).alloc _,fun j u hj => ⟨_,_,rfl,?_⟩,by simp⟩
 ·have:s.data.toList.length = s.size:=by rw [Array.length_toList]; rfl
  rw [this]
  exact grownCap_ge _ _ _ _
 have hl:j < s.data.toList.length:=by simpa using (List.getElem?_eq_some_iff.1 hj).1
 rw [List.getElem?_map,List.getElem?_eq_getElem hl] at hj
 simp only [Option.map_some,Option.some.injEq] at hj
 subst hj
 have hl':j < s.data.size:=by simpa using hl
 have hl2:j < s.size:=hl'
 simp [World.cell?,World.alloc,World.drew,-World.alloc_eq,-World.drew_eq,bytesRow,Array.getElem?_append,hl',hl2,u8]
theorem brs_one {w:World} {g:Nat} {B:Option Addr} {d:Nat} {p:List UInt8} {S:Nat → Prop} {t:TypeId} (h:Blk w g t #[.slice B p.length d]) (hg:¬ S g) (hr:Rd w B (p.map u8)) (hB:Ofl B (p.map u8) S) (hd:p.length ≤ d):Brs w (some ⟨g,0,none⟩) [p] S :=
 (RV.one hr hB hd).brs (Rd.of_heap h) fun a ha _ => by cases ha; exact hg
theorem bencode_spec (v:Value) (b:Bx) (w:World) (h:RB w v b (fun _ => False)) (hn:b.name.size ≤ 9223372036854775807) (hll:b.L.length ≤ 9223372036854775807) :
  Cal Tryz.prog 164 #[v] w fun v' w' => EncR v' w' b w.heap.size ∧ Nw w w':=by
 have hRB:=h
 obtain ⟨A,c,q,rfl,hq,hc,hr,ho,hb⟩:=h
 have hql:q.length = b.L.length:=by rw [← hq,List.length_map]
 refine enter Tryz.mixed Tryz.func164 rfl (by kernel_rfl) ?_
 have k0:Nw w (w.alloc (.cells #[.string b.name,i64 b.val,i64 b.next,.slice A b.L.length c] 111)):=(Kp.refl _ _).alloc _
 have hb0:Blk (w.alloc (.cells #[.string b.name,i64 b.val,i64 b.next,.slice A b.L.length c] 111)) w.heap.size 111 #[.string b.name,i64 b.val,i64 b.next,.slice A b.L.length c]:=Blk.new _ _ _
 obtain ⟨x,hx⟩:∃ x,x = w.heap.size:=⟨_,rfl⟩
 simp -dsimp [go_sem]
 rw [← hx] at hb0 ⊢
 generalize w.alloc (.cells #[.string b.name,i64 b.val,i64 b.next,.slice A b.L.length c] 111) = wa at *
 refine call (bis_spec _ b (fun _ => False) wa (hRB.nw k0) hn hll) ?_
 rintro v w1 ⟨rfl,hk1⟩
 cases hib:isB b with
 | false =>
  simp -dsimp [go_sem]
  exact ⟨.inr ⟨hib,rfl⟩,k0.nw hk1⟩
 | true =>
  have hI:=IsB.of hib
  have k1:=k0.nw hk1
  have hb1:=hb0.nw hk1
  have hxl:=hb1.lt
  obtain ⟨hnsz,hns1⟩:b.name.size ≤ 12 ∧ 1 ≤ b.name.size:=by
   have:nameOk b.name = true:=by
    simp only [isB,Bool.and_eq_true] at hib
    exact hib.1.1.2
   unfold nameOk at this
   simp only [Bool.and_eq_true,decide_eq_true_eq] at this
   exact ⟨this.2,this.1.2⟩
  have kb:Nw w1 (w1.alloc (.cells #[.slice none 0 0] 70)):=(Kp.refl _ _).alloc _
  have hg0:=Blk.new w1 70 #[.slice none 0 0]
  obtain ⟨g,hg⟩:∃ g,g = w1.heap.size:=⟨_,rfl⟩
  have hxg:x < g:=by omega
  have hbb:=hb1.nw kb
  have x0:=hbb.cell 0
  have kwb:=k1.nw kb
  simp -dsimp [go_sem]
  rw [← hg] at hg0 ⊢
  generalize w1.alloc (.cells #[.slice none 0 0] 70) = wb at *
  obtain ⟨c2,w2,hcv,hcl,hk2,hr2,hlt2⟩:=conv_bytes2 (P:=Tryz.prog) (src:=9) (dst:=23) (e:=5) (by kernel_rfl) (by kernel_rfl) (by kernel_rfl) b.name wb
  have hcv:convR Tryz.prog 9 23 (.string b.name) wb = _:=hcv
  obtain ⟨nl,hnl⟩:∃ nl,nl = b.name.data.toList:=⟨_,rfl⟩
  have hnll:nl.length ≤ 12:=by rw [hnl,Array.length_toList]; exact hnsz
  rw [← hnl] at hcv hcl hr2
  simp -dsimp [go_sem,x0,hcv]
  have kc:Nw w2 (w2.alloc (.cells #[.slice (some ⟨wb.heap.size,0,none⟩) nl.length c2] 23)):=(Kp.refl _ _).alloc _
  have hgs:g < wb.heap.size:=hg0.lt
  have hW0:Wr (w2.alloc (.cells #[.slice (some ⟨wb.heap.size,0,none⟩) nl.length c2] 23)) g [] (At g) :=
   ⟨none,0,(hg0.nw hk2).nw kc,Ow.nil _ _ _,(fun a ha => by cases ha),(fun k hk => hk.elim id fun h => h.elim),fun k (e:k = g) => by have:=(hk2.nw kc).size; omega⟩
  have hbr:Brs (w2.alloc (.cells #[.slice (some ⟨wb.heap.size,0,none⟩) nl.length c2] 23)) (some ⟨w2.heap.size,0,none⟩) [nl] (At g) :=
   brs_one (Blk.new w2 _ _) (fun (e:w2.heap.size = g) => by have:=hk2.size; omega) (hr2.nw kc) (fun a ha _ (e:a.block = g) => by cases ha; simp at e; omega) hcl
  refine call (wBytes_spec g [] [nl] (At g) _ 1 _ hW0 hbr (by simp [load]; omega)) ?_
  rintro v w3 ⟨rfl,F3,hW3,hG3,hK3⟩
  rw [show [] ++ rowsB [nl] = rowB nl by simp [rowsB]] at hW3
  have hbx3:=((hbb.nw hk2).nw kc).kp hK3 fun (e:x = g) => by omega
  have k3:Nw w w3:=((kwb.nw hk2).nw kc).at_ hK3 fun k (e:k = g) => by have:=k0.size; omega
  have hwg:w.heap.size ≤ g:=by omega
  have nF3:Nf w F3:=fun k hk => (hG3 k hk).elim (fun (e:k = g) => by omega) fun e => by have:=((kwb.nw hk2).nw kc).size; omega
  have hF3x:∀ k,F3 k → x < k:=fun k hk => (hG3 k hk).elim (fun (e:k = g) => by omega) fun e => by have:=(hk2.nw kc).size; omega
  have nG3:Nf w1 F3:=fun k hk => (hG3 k hk).elim (fun (e:k = g) => by omega) fun e => by have:=(hk2.nw kc).size; omega
  have kw13:w1.heap.size ≤ w3.heap.size:=by have:=(hk2.nw kc).size; have:=hK3.size; omega
  have hrnl:=rowB_lenq (l:=nl) (by omega)
  have x1:=hbx3.cell 1
  have x2:=hbx3.cell 2
  have x3:=hbx3.cell 3
  simp -dsimp [go_sem,x1,x2,x3]
  have kd:Nw w3 (w3.alloc (.cells #[i64 b.val,i64 b.next,i64 b.L.length] 3)):=(Kp.refl _ _).alloc _
  refine call (wNums_spec g (rowB nl) [b.val,b.next,(b.L.length:Int)] F3 (some ⟨w3.heap.size,0,none⟩) 3 _ (hW3.kp_ kd fun _ _ h => h) (Rd.fresh rfl rfl) (fun a ha _ hf => by cases ha; have:=hW3.lt_ _ hf; simp at this) (by simp; omega)) ?_
  rintro v w4 ⟨rfl,F4,hW4,hG4,hK4⟩
  obtain ⟨pre,hpre⟩:∃ pre,pre = rowB nl ++ numsB [b.val,b.next,(b.L.length:Int)]:=⟨_,rfl⟩
  have hprel:pre.length ≤ 60:=by
   rw [hpre,List.length_append]
   have:=numsB_len [b.val,b.next,(b.L.length:Int)]
   simp only [List.length_cons,List.length_nil] at this
   omega
  rw [← hpre] at hW4
  have k4:Nw w w4:=(k3.nw kd).at_ hK4 fun k hk => nF3 k hk
  have nF4:Nf w F4:=Nf.gr nF3 hG4 (k3.nw kd).size
  have nG4:Nf w1 F4:=Nf.gr nG3 hG4 (Nat.le_trans kw13 kd.size)
  have hF4x:∀ k,F4 k → x < k:=fun k hk => by have:=nG4 k hk; omega
  have hbx4:=(hbx3.nw kd).kp hK4 fun e => Nat.lt_irrefl _ (hF3x x e)
  have x34:=hbx4.cell 3
  have hms:∀ m ∈ b.L,m.body.length ≤ 1200:=fun m hm => (hI.all m hm).2.2.2.2
  have hl24:=hI.len
  obtain ⟨N,hN⟩:∃ N,N = b.L.length:=⟨_,rfl⟩
  rw [← hN] at x34 hl24
  simp -dsimp [go_sem,x34]
  refine loop [6,27,28,29,30,31,32,33,34,35,36,37,38,39,40,41,42,43] (by kernel_rfl)
   (fun f w' => Box1 (fun a w' => ∃ (i:Nat) (F:Nat → Prop),a = i64 i ∧ i ≤ N ∧ Wr w' g (pre ++ (b.L.take i).flatMap encM) F ∧ Nf w F ∧ Nw w w') (f 27) w') (fun f _ => N - (intOf (f 27)).toNat)
   ⟨0,F4,rfl,Nat.zero_le _,by simpa using hW4,nF4,k4⟩ ?_
  rintro f w5 ⟨i,F,f27,hi,hW,nF,k5⟩
  by_cases hlt:i < N
  ·have hltL:i < b.L.length:=by omega
   have hi1:IntKind.i64.wrap ((i:Int) + 1) = ((i + 1:Nat):Int):=by rw [w64 (by omega) (by omega)]; omega
   obtain ⟨i1,hi1'⟩:∃ i1,i1 = i + 1:=⟨_,rfl⟩
   have htk:(b.L.take i1).flatMap encM = (b.L.take i).flatMap encM ++ encM b.L[i]:=by rw [hi1',List.take_succ_eq_append_getElem hltL,List.flatMap_append]; simp
   rw [← hi1'] at hi1
   have hltq:i < q.length:=by omega
   obtain ⟨ga,o,rfl,e0,e1,e2,e3⟩:=msg_at (hr.nw k5) hltq
   have hqi:q[i].1 = b.L[i]:=by simp only [← hq,List.getElem_map]
   have hbq:=hb _ (List.getElem_mem hltq)
   rw [hqi] at e0 e1 e2 hbq
   have hmb:=hms _ (List.getElem_mem hltL)
   have htl:((b.L.take i).flatMap encM).length ≤ 1236 * 24:=by
    have:=encMs_len (b.L.take i) fun m hm => hms m (List.mem_of_mem_take hm)
    have h2:(b.L.take i).length ≤ 24:=by rw [List.length_take]; omega
    have h3:=Nat.mul_le_mul_left 1236 h2
    omega
   generalize (b.L.take i).flatMap encM = cur at *
   generalize b.L[i] = m at *
   generalize q[i].2 = mv at *
   obtain ⟨Bm,dm,rfl,hrm,hom,hdm⟩:=hbq
   have ka:Nw w5 (w5.alloc (.cells #[i64 m.uid,i64 m.flags,i64 m.date,.slice Bm m.body.length dm] 186)):=(Kp.refl _ _).alloc _
   have hy0:=Blk.new w5 186 #[i64 m.uid,i64 m.flags,i64 m.date,.slice Bm m.body.length dm]
   obtain ⟨y,hy⟩:∃ y,y = w5.heap.size:=⟨_,rfl⟩
   have hFy:∀ k,F k → k < y:=fun k hk => by have:=hW.lt_ k hk; omega
   have hWa:=hW.kp_ ka fun _ _ h => h
   have ka5:=k5.nw ka
   have hys6:(w5.alloc (.cells #[i64 m.uid,i64 m.flags,i64 m.date,.slice Bm m.body.length dm] 186)).heap.size = y + 1:=by simp [hy]
   simp -dsimp [go_sem,f27,hlt,e0,e1,e2,e3]
   rw [← hy] at hy0 ⊢
   generalize w5.alloc (.cells #[i64 m.uid,i64 m.flags,i64 m.date,.slice Bm m.body.length dm] 186) = w6 at *
   have hys:=hy0.lt
   have y0:=hy0.cell 0
   have y1:=hy0.cell 1
   have y2:=hy0.cell 2
   have kn:Nw w6 (w6.alloc (.cells #[i64 m.uid,i64 m.flags,i64 m.date] 3)):=(Kp.refl _ _).alloc _
   refine call (wNums_spec g (pre ++ cur) [m.uid,m.flags,m.date] F (some ⟨y + 1,0,none⟩) 3 _ (hWa.kp_ kn fun _ _ h => h) (Rd.fresh hys6.symm rfl) (fun a ha _ hf => by cases ha; have:=hWa.lt_ _ hf; simp at this; omega) (by rw [List.length_append]; simp; omega)) ?_
   rintro v w7 ⟨rfl,F7,hW7,hG7,hK7⟩
   have hy7:=(hy0.nw kn).kp hK7 fun e => Nat.lt_irrefl _ (hFy y e)
   have y3:=hy7.cell 3
   have k7:Nw w w7:=(ka5.nw kn).at_ hK7 fun k hk => nF k hk
   have nF7:Nf w F7:=Nf.gr nF hG7 (ka5.nw kn).size
   simp -dsimp [go_sem,y3]
   have kr:Nw w7 (w7.alloc (.cells #[.slice Bm m.body.length dm] 23)):=(Kp.refl _ _).alloc _
   have hnum:=numsB_len [m.uid,m.flags,m.date]
   simp only [List.length_cons,List.length_nil] at hnum
   refine call (wBytes_spec g _ [m.body] F7 (some ⟨w7.heap.size,0,none⟩) 1 _ (hW7.kp_ kr fun _ _ h => h) (brs_one (Blk.new w7 _ _) (fun e => by have:=hW7.lt_ _ e; omega) ((hrm.nw k7).nw kr) (hrm.ofl fun i hi => nF7 i hi) hdm) (by rw [List.length_append,List.length_append]; simp [load]; omega)) ?_
   rintro v w8 ⟨rfl,F8,hW8,hG8,hK8⟩
   have k8:Nw w w8:=(k7.nw kr).at_ hK8 fun k hk => nF7 k hk
   have nF8:Nf w F8:=Nf.gr nF7 hG8 (k7.nw kr).size
   have he:pre ++ cur ++ numsB [m.uid,m.flags,m.date] ++ rowsB [m.body] = pre ++ (cur ++ encM m):=by simp [rowsB,encM]
   rw [he,← htk] at hW8
   simp -dsimp [go_sem,f27,hi1]
   exact ⟨⟨i1,F8,rfl,by omega,hW8,nF8,k8⟩,by simp [intOf]; omega⟩
  ·obtain rfl:i = N:=by omega
   rw [hN,List.take_length] at hW
   have hex:encX b = pre ++ b.L.flatMap encM:=by rw [hpre,hnl]; rfl
   have htl:=encMs_len b.L hms
   rw [← hex] at hW
   have hexl:(encX b).length ≤ 140737488355328:=by rw [hex,List.length_append]; omega
   simp -dsimp [go_sem,f27,hlt]
   refine call (wOut_spec g (encX b) F w5 hW hexl) ?_
   rintro v w6 ⟨hB6,hk6⟩
   simp -dsimp [go_sem]
   exact ⟨.inl ⟨hib,_,rfl,hB6.mono (by have:=k5.size; omega)⟩,k5.nw hk6⟩
end Go.Proofs.YtellahclbhfdiaaGreatDoor
