/-
  A state read out of its image: plain laws, and the reader's steps. By the session itself. A user read out of an image: taken walked. By the session itself. A state read out of its image: imaged walked. By the session itself.
-/
import Derived.Test.YtellahclbhfdiaaGreatDoorZ40
import Derived.Test.YtellahclbhfdiaaGreatDoorZ13
import Derived.Test.YtellahclbhfdiaaGreatDoorZ31
import Derived.Test.YtellahclbhfdiaaGreatDoorZ36
namespace Go.Proofs.YtellahclbhfdiaaGreatDoor
set_option linter.unusedSimpArgs false
set_option linter.unusedVariables false
set_option maxRecDepth 100000
set_option maxHeartbeats 1000000
open Go.Vc Go.RowKit
theorem less_nm:∀ a b:Nm,Op.bytesLess a b = decide (a < b)
 | [],[] => by simp [Op.bytesLess]
 | [],_ :: _ => by simp [Op.bytesLess]
 | _ :: _,[] => by simp [Op.bytesLess]
 | x :: a,y :: b => by
  have ih:=less_nm a b
  simp only [Op.bytesLess,ih,List.cons_lt_cons_iff]
  by_cases h:x < y
  ·simp [h]
  ·by_cases e:x = y
   ·simp [e]
   ·simp [h,e]
/-- Not at most: what stands behind. -/
theorem leq_nm {a b:Nm} (h:a < b):(Op.bytesLess b a || b == a) = false:=by
 have h1:¬ b < a:=fun h2 => nm_lt_irrefl _ (nm_lt_trans h h2)
 have h2:b ≠ a:=fun e => nm_ne h e.symm
 rw [less_nm]
 simp [h1,h2]
section
variable {β:Type}
theorem tLook_snoc {l:List (Nm × β)} {n:Nm} (b:β) (h:tLook l n = none) (t:Nm):tLook (l ++ [(n,b)]) t = if t = n then some b else tLook l t:=by
 induction l with
 | nil => simp [tLook,eq_comm]
 | cons x l ih =>
  obtain ⟨k,g⟩:=x
  simp only [List.cons_append,tLook] at h ⊢
  split at h
  ·cases h
  ·rename_i hk
   by_cases hkt:k = t
   ·subst hkt
    rw [if_pos rfl,if_neg hk,if_pos rfl]
   ·rw [if_neg hkt,if_neg hkt]
    exact ih h
theorem take_lt {L:List (Nm × β)} (hs:Srt L) {i:Nat} (hi:i < L.length):∀ x ∈ L.take i,x.1 < L[i].1:=fun x hx => by
 obtain ⟨j,hj,rfl⟩:=List.getElem_of_mem hx
 have hji:j < i:=by have:=hj; rw [List.length_take] at this; omega
 rw [List.getElem_take]
 exact (List.pairwise_iff_getElem.1 hs) j i (by omega) hi hji
theorem take_none {L:List (Nm × β)} (hs:Srt L) {i:Nat} (hi:i < L.length):tLook (L.take i) L[i].1 = none:=tLook_none fun x hx => nm_ne (take_lt hs hi x hx)
theorem take_look {L:List (Nm × β)} (hs:Srt L) {i:Nat} (hi:i < L.length) (t:Nm):tLook (L.take (i + 1)) t = if t = L[i].1 then some L[i].2 else tLook (L.take i) t:=by
 rw [List.take_succ_eq_append_getElem hi]
 exact tLook_snoc _ (take_none hs hi) t
theorem take_srt {L:List (Nm × β)} (hs:Srt L) (i:Nat):Srt (L.take i):=List.Pairwise.sublist (List.take_sublist i L) hs
theorem take_lay {L:List (Nm × β)} (hs:Srt L) {i:Nat} (hi:i < L.length):tLay (L.take i) L[i].1 L[i].2 = L.take (i + 1) :=
 tLook_ext ((take_srt hs i).tLay _ _) (take_srt hs _) fun t => by rw [tLook_lay,take_look hs hi]
/-- The name ahead. -/
def lastN (L:List (Nm × β)) (i:Nat):Nm:=match L[i - 1]? with | none => [] | some x => if i = 0 then [] else x.1
theorem lastN_zero (L:List (Nm × β)):lastN L 0 = []:=by unfold lastN; split <;> simp
theorem lastN_succ {L:List (Nm × β)} {i:Nat} (hi:i < L.length):lastN L (i + 1) = L[i].1:=by unfold lastN; simp [hi]
theorem lastN_lt {L:List (Nm × β)} (hs:Srt L) {i:Nat} (hi:i < L.length) (hn:L[i].1 ≠ []):lastN L i < L[i].1:=by
 cases i with
 | zero =>
  rw [lastN_zero]
  cases h:L[0].1 with
  | nil => exact absurd h hn
  | cons a l => exact List.nil_lt_cons a l
 | succ j =>
  rw [lastN_succ (by omega)]
  exact (List.pairwise_iff_getElem.1 hs) j (j + 1) (by omega) hi (by omega)
end
theorem Mb_take {L:List (Nm × Bx)} (hs:Srt L) {i:Nat} (hi:i < L.length) (vb:Nm → Value) (v:Value):put (Mb vb (L.take i)) L[i].1 v = Mb (fun t => if t = L[i].1 then v else vb t) (L.take (i + 1)):=by
 rw [← take_lay hs hi]
 exact Mb_lay vb _ _ _ v
theorem clampN_nat {n:Nat} (h:n ≤ 4611686018427387904):clampN (n:Int) = n:=clamp_nat h
section
variable {w:World} {h n:Nat} {rest a:List UInt8} {F:Nat → Prop}
theorem rd_num (hR:Rdr w h (numB n ++ rest) false F) (hn:n ≤ 4611686018427387904) (hl:(numB n ++ rest).length ≤ 140737488355328) :
  Cal Tryz.prog 39 #[.pointer (some ⟨h,0,none⟩)] w fun v w' => v = i64 n ∧ Rdr w' h rest false F ∧ Kp (At h) w w':=by
 have:=num_spec h _ false F w hR hl
 rw [numL_numB _ _ _ hn] at this
 exact this
theorem rd_row (hR:Rdr w h (rowB a ++ rest) false F) (hn:a.length ≤ 4611686018427387904) (hl:(rowB a ++ rest).length ≤ 140737488355328) :
  Cal Tryz.prog 40 #[.pointer (some ⟨h,0,none⟩)] w fun v w' => Bs w' v a w.heap.size ∧ Rdr w' h rest false F ∧ Kp (At h) w w':=by
 have:=rBytes_spec h _ false F w hR hl
 rw [bytL_rowB _ _ hn] at this
 exact this
end
theorem imgU_rest (x:Nm × Usr) (rest:List UInt8):imgU x ++ rest = rowB x.1 ++ (rowB x.2.pass ++ (numB (clampN (x.2.bx.length:Int)) ++ (x.2.bx.flatMap (fun y => rowB (encX y.2)) ++ rest))):=by
 unfold imgU
 simp [rowsB,numsB]
theorem drop_rows {L:List (Nm × Bx)} {i:Nat} (hi:i < L.length) (rest:List UInt8):(L.drop i).flatMap (fun y => rowB (encX y.2)) ++ rest = rowB (encX L[i].2) ++ ((L.drop (i + 1)).flatMap (fun y => rowB (encX y.2)) ++ rest):=by
 rw [List.drop_eq_getElem_cons hi,List.flatMap_cons,List.append_assoc]
theorem drop_users {L:List (Nm × Usr)} {i:Nat} (hi:i < L.length):(L.drop i).flatMap imgU = imgU L[i] ++ (L.drop (i + 1)).flatMap imgU:=by
 rw [List.drop_eq_getElem_cons hi,List.flatMap_cons]
theorem imgS_eq (T:Stt):imgS T = numB (clampN T.next) ++ (numB (clampN (T.us.length:Int)) ++ T.us.flatMap imgU):=by
 unfold imgS
 simp [numsB]
set_option maxHeartbeats 2000000
/-- What taking a user comes to: the user at p, the boxes in the map q, all of it new. -/
def TakR (w w':World) (v:Value) (h:Nat) (x:Nm × Usr) (rest:List UInt8) (F:Nat → Prop):Prop:=∃ p q vb,v = .tuple #[str x.1,.pointer (some ⟨p,0,none⟩)] ∧ w.heap.size ≤ p ∧ w.heap.size ≤ q ∧ p ≠ q ∧ p < w'.heap.size ∧ q < w'.heap.size ∧
 UsrAt w' p q x.2 (fun i => i < w.heap.size ∨ i = p ∨ i = q) vb ∧ Rdr w' h rest false F ∧ Kp (At h) w w'
theorem staken_spec (h:Nat) (nm:Nm) (u:Usr) (rest:List UInt8) (F:Nat → Prop) (w:World) (hR:Rdr w h (imgU (nm,u) ++ rest) false F) (hFl:∀ k,F k → k < w.heap.size) (hn:nmOk nm = true) (hu:u.Ok) (hl:(imgU (nm,u) ++ rest).length ≤ 1000000) :
  Cal Tryz.prog 172 #[.pointer (some ⟨h,0,none⟩)] w fun v w' => TakR w w' v h (nm,u) rest F:=by
 have hnl:=nmOk_len hn
 have hpl:=passOk_len hu.pass
 have hbl:=hu.len
 have hhw:h < w.heap.size:=hFl h hR.in_
 rw [imgU_rest] at hR hl
 have hcl:clampN (u.bx.length:Int) = u.bx.length:=clampN_nat (by omega)
 simp only [hcl] at hR hl
 obtain ⟨R,hRd⟩:∃ R,R = u.bx.flatMap (fun y => rowB (encX y.2)) ++ rest:=⟨_,rfl⟩
 rw [← hRd] at hR hl
 have hl1:=hl
 rw [List.length_append] at hl1
 have hl2:(numB u.bx.length ++ R).length ≤ 1000000:=by rw [List.length_append] at hl1; omega
 have hl3:R.length ≤ 1000000:=by rw [List.length_append] at hl2; omega
 refine enter Tryz.mixed Tryz.func172 rfl (by kernel_rfl) ?_
 simp -dsimp [go_sem]
 refine call (rd_row hR (by omega) (by omega)) ?_
 rintro v w1 ⟨hB1,hR1,k1⟩
 obtain ⟨X1,x1,rfl,hoX1,_⟩:=hB1
 have hcv1:=nm_conv (c:=x1) hoX1.rd
 simp -dsimp [go_sem,hcv1]
 refine call (rd_row hR1 (by omega) (by omega)) ?_
 rintro v w2 ⟨hB2,hR2,k2⟩
 obtain ⟨X2,x2,rfl,hoX2,_⟩:=hB2
 have hcv2:=nm_conv (c:=x2) hoX2.rd
 have k02:Kp (At h) w w2:=k1.trans k2 fun _ _ e => e
 have hmk:=fun (t:TypeId) (w:World) => run_makeMap (P:=Tryz.prog) t w
 simp -dsimp [go_sem,hcv2,hmk]
 have m3:Nw w2 (w2.alloc (.map #[] 0)):=(Kp.refl _ _).alloc _
 have hm3:Mp (w2.alloc (.map #[] 0)) w2.heap.size (fun l:Nm => str l) (fun _ => none):=Mp.new w2
 have s3:(w2.alloc (.map #[] 0)).heap.size = w2.heap.size + 1:=by simp
 obtain ⟨q,hq⟩:∃ q,q = w2.heap.size:=⟨_,rfl⟩
 rw [← hq] at hm3 s3 ⊢
 generalize w2.alloc (.map #[] 0) = w3 at *
 simp [go_sem]
 have m4:Nw w3 (w3.alloc (.cells #[str u.pass,.map (some q)] 158)):=(Kp.refl _ _).alloc _
 have hp4:=Blk.new w3 158 #[str u.pass,.map (some q)]
 have s4:(w3.alloc (.cells #[str u.pass,.map (some q)] 158)).heap.size = w3.heap.size + 1:=by simp
 rw [s3] at hp4 s4 ⊢
 obtain ⟨p,hp⟩:∃ p,p = q + 1:=⟨_,rfl⟩
 rw [← hp] at hp4 s4 ⊢
 have hm4:=hm3.kp m4 fun h => h
 generalize w3.alloc (.cells #[str u.pass,.map (some q)] 158) = w4 at *
 have k04:Kp (At h) w w4:=(k02.nw m3).nw m4
 have hw2:w.heap.size ≤ w2.heap.size:=k02.size
 have hR4:=(hR2.nw m3).nw m4
 refine call (rd_num hR4 (by omega) (by omega)) ?_
 rintro v w5 ⟨rfl,hR5,k5⟩
 have k05:=k04.trans k5 fun _ _ e => e
 have hp5:=hp4.kp k5 fun (e:p = h) => by omega
 have hm5:=hm4.kp k5 fun (e:q = h) => by omega
 obtain ⟨M,hM⟩:∃ M,M = u.bx.length:=⟨_,rfl⟩
 rw [← hM]
 have hs5:=k5.size
 simp -dsimp [go_sem]
 refine loop [6,7,8,9,23,24,25,26,27,28,29,30,31,32,33,34,35,36,37,38,39,40,41,42,43,44,45,46,47,48,49,50,51,52,53,54,55] (by kernel_rfl)
  (fun f w' => Box2 (fun a b w' => ∃ (i k:Nat) (l:Nm) (vs:Nm → Value),a = i64 k ∧ i + k = M ∧ b = str l ∧ l = lastN u.bx i ∧ Blk w' p 158 #[str u.pass,.map (some q)] ∧ Mp w' q (fun l:Nm => str l) (Mb vs (u.bx.take i)) ∧
   (∀ n b,tLook (u.bx.take i) n = some b → RB w' (vs n) b (fun j => j < w.heap.size ∨ j = p ∨ j = q)) ∧ Rdr w' h ((u.bx.drop i).flatMap (fun y => rowB (encX y.2)) ++ rest) false F ∧ Kp (At h) w w' ∧ p < w'.heap.size) (f 7) (f 6) w') (fun f _ => (intOf (f 7)).toNat)
  ⟨0,M,[],fun _ => .int .i64 0,rfl,by omega,rfl,(lastN_zero _).symm,hp5,(show Mp w5 q (fun l:Nm => str l) (Mb (fun _ => .int .i64 0) []) from hm5),fun n b hb => by simp [tLook] at hb,by rw [List.drop_zero,← hRd]; exact hR5,k05,by omega⟩ ?_
 rintro f w6 ⟨i,k,la,vs,f7,hik,f6,hla,hp6,hm6,hb6,hR6,k06,hpl6⟩
 have hlen6:((u.bx.drop i).flatMap (fun y => rowB (encX y.2)) ++ rest).length ≤ 1000000:=by
  have e:u.bx.flatMap (fun y => rowB (encX y.2)) = (u.bx.take i).flatMap (fun y => rowB (encX y.2)) ++ (u.bx.drop i).flatMap (fun y => rowB (encX y.2)):=by rw [← List.flatMap_append,List.take_append_drop]
  rw [hRd,e,List.append_assoc,List.length_append] at hl3
  omega
 by_cases hk:k = 0
 ·subst hk
  have hiM:i = M:=by omega
  have p1:=hp6.cell 1
  rw [hiM,hM,List.take_length] at hm6 hb6
  rw [hiM,hM,List.drop_length,List.flatMap_nil,List.nil_append] at hR6
  obtain ⟨b0,hb0⟩:=Option.isSome_iff_exists.1 hu.inb
  have hRB:=hb6 _ _ hb0
  obtain ⟨A0,c0,hv0⟩:=hRB.open_
  have hlk:=lookup_mp KL hmb (w:=w6) zeroBox hm6 inboxN true
  rw [show Mb vs u.bx inboxN = some (.agg #[.string b0.name,i64 b0.val,i64 b0.next,.slice A0 b0.L.length c0]) by simp [Mb,hb0,hv0]] at hlk
  have hlk:(Instr.lookup 156 (.map (some q)) (.string ⟨#[105,110,98,111,120]⟩) true).run Tryz.prog w6 = .ok (.tuple #[.agg #[.string b0.name,i64 b0.val,i64 b0.next,.slice A0 b0.L.length c0],.bool true]) w6:=hlk
  simp -dsimp [go_sem,f7,p1,hlk]
  have m7:Nw w6 (w6.alloc (.cells #[.string b0.name,i64 b0.val,i64 b0.next,.slice A0 b0.L.length c0] 111)):=(Kp.refl _ _).alloc _
  generalize w6.alloc (.cells #[.string b0.name,i64 b0.val,i64 b0.next,.slice A0 b0.L.length c0] 111) = w7 at *
  have hp7:=hp6.nw m7
  have hm7:=hm6.kp m7 fun h => h
  have p17:=hp7.cell 1
  have p07:=hp7.cell 0
  have hlen:=len_mp (ty:=3) KL hmb hm7 (keys_nodup hu.srt) (Mb_some vs u.bx)
  rw [show (keysA u.bx).length = u.bx.length by simp [keysA]] at hlen
  have h4:¬ 4 < u.bx.length:=by omega
  have h4':¬ (4:Int) < (u.bx.length:Int):=by omega
  simp -dsimp [go_sem,p17,p07,hlen,h4,h4']
  refine call (bname_spec ⟨nm.toArray⟩ w7 (by simp [ByteArray.size]; omega)) ?_
  rintro v w8 ⟨rfl,k8⟩
  rw [show nameOk ⟨nm.toArray⟩ = true from hn]
  have hp8:=hp7.nw k8
  have p08:=hp8.cell 0
  simp -dsimp [go_sem,p08]
  refine call (pass_spec u.pass w8 (by omega)) ?_
  rintro v w9 ⟨rfl,k9⟩
  rw [hu.pass]
  simp -dsimp [go_sem]
  have n69:=(m7.nw k8).nw k9
  have hm9:=hm6.kp n69 fun h => h
  exact ⟨p,q,vs,rfl,by omega,by omega,by omega,Nat.lt_of_lt_of_le hpl6 n69.size,by have:=n69.size; omega,⟨hp8.nw k9,hm9,fun n b hb => (hb6 n b hb).nw n69⟩,hR6.nw n69,k06.nw n69⟩
 ·have hkp:0 < k:=by omega
  have hkp':(0:Int) < (k:Int):=by omega
  obtain ⟨k1,hk1e⟩:∃ k1,k = k1 + 1:=⟨k - 1,by omega⟩
  have hkm:IntKind.i64.wrap ((k:Int) - 1) = (k1:Int):=by rw [w64 (by omega) (by omega)]; omega
  have hi:i < u.bx.length:=by omega
  have hlk:=look_at hu.srt hi
  have hB:=hu.bx _ _ hlk
  have hne:=nmOk_len (nmB hB.1 hB.2)
  have hlt:=lastN_lt hu.srt hi fun e => by rw [e] at hne; simp at hne
  rw [← hla] at hlt
  have hla1:=lastN_succ hi
  have hMb:=Mb_take hu.srt hi
  have htl:=take_look hu.srt hi
  rw [drop_rows hi] at hR6 hlen6
  obtain ⟨i1,hi1⟩:∃ i1,i1 = i + 1:=⟨_,rfl⟩
  rw [← hi1] at hla1 hMb htl hR6 hlen6
  generalize u.bx[i] = Y at *
  obtain ⟨bn,b⟩:=Y
  simp only at hlk hB hne hlt hla1 hMb htl hR6 hlen6
  have hel:=encX_len hB.2
  have hok:=ok_enc hB.2
  have hre:=read_enc hB.2
  have hleq:=leq_nm hlt
  simp -dsimp [go_sem,f7,hkp,hkp']
  refine call (good_spec h _ false F w6 hR6) ?_
  rintro v w7 ⟨rfl,rfl⟩
  simp -dsimp [go_sem]
  refine call (rd_row hR6 (by omega) (by omega)) ?_
  rintro v w7 ⟨hB7,hR7,k7⟩
  obtain ⟨X7,x7,rfl,hoX7,_⟩:=hB7
  simp -dsimp [go_sem]
  refine call (bdecode_spec (encX b) X7 x7 w7 hoX7.rd (by omega)) ?_
  rintro v w8 ⟨hD,k8⟩
  have hs7:=k7.size
  have hs8:=k8.size
  have hs06:=k06.size
  rcases hD with ⟨_,uv,rfl,hO⟩ | ⟨hno,_⟩
  ·rw [hre] at hO
   simp only at hO
   obtain ⟨A8,c8,rfl⟩:=hO.open_
   obtain ⟨bnm,bv,bnx,bL⟩:=b
   obtain rfl:bnm = ⟨bn.toArray⟩:=hB.1
   simp only at hO
   simp -dsimp [go_sem]
   have m9:Nw w8 (w8.alloc (.cells #[.string ⟨bn.toArray⟩,i64 bv,i64 bnx,.slice A8 bL.length c8] 111)):=(Kp.refl _ _).alloc _
   have hy9:=Blk.new w8 111 #[.string ⟨bn.toArray⟩,i64 bv,i64 bnx,.slice A8 bL.length c8]
   have hO9:=hO.nw m9
   obtain ⟨y,hy⟩:∃ y,y = w8.heap.size:=⟨_,rfl⟩
   rw [← hy] at hy9 ⊢
   generalize w8.alloc (.cells #[.string ⟨bn.toArray⟩,i64 bv,i64 bnx,.slice A8 bL.length c8] 111) = w9 at *
   have hl1:Op.bytesLess bn la = false:=by
    rw [less_nm,decide_eq_false fun e => nm_lt_irrefl _ (nm_lt_trans hlt e)]
   have hl2:(bn == la) = false:=by simpa using fun e => nm_ne hlt e.symm
   have hp9:=((hp6.kp k7 fun (e:p = h) => by omega).nw k8).nw m9
   have hm9:=((hm6.kp k7 fun (e:q = h) => by omega).kp k8 fun e => e).kp m9 fun e => e
   have y0:=hy9.cell 0
   have y1:=hy9.cell 1
   have y2:=hy9.cell 2
   have y3:=hy9.cell 3
   have p1:=hp9.cell 1
   have kd:Nw w9 w9.drew:=(Kp.refl _ _).drew
   have hyl:=hy9.lt
   have hyq:y ≠ q:=by omega
   have hpq:p ≠ q:=by omega
   simp -dsimp [go_sem,y0,f6,hl1,hl2]
   obtain ⟨w10,hup,hm10,hk10⟩:=update_mp KL hmb (hm9.kp kd fun h => h) bn (.agg #[str bn,i64 bv,i64 bnx,.slice A8 bL.length c8])
   have hk:Kp (At q) w9 w10:=(Nw.kp kd _).trans hk10 fun _ _ h => h
   refine draw (.take 0 (.take 1 (.take 2 (.take 3 (.take 4 (.take 5 (.take 6 (.alt 7 .done .stop)))))))) (by kernel_rfl) (fun wz => Kp (At q) w9 wz) ((Kp.refl _ _).drew) ?_
   simp -dsimp [go_sem,p1,y0,y1,y2,y3,hup]
   refine ⟨fun wz hz => by simp [hz.cell_some p1 hpq],fun wz hz => by simp [hz.cell_some y0 hyq],fun wz hz => by simp [hz.cell_some y0 hyq,hz.cell_some y1 hyq,hz.cell_some y2 hyq,hz.cell_some y3 hyq],hk,?_⟩
   simp -dsimp [go_sem,f7,hkm]
   have k69:Kp (At h) w6 w9:=(k7.nw k8).nw m9
   have k610:Kp (fun j => j = h ∨ j = q) w6 w10:=(k69.mono fun i _ e => .inl e).trans hk fun i _ e => .inr e
   have hG:∀ V:Nat → Prop,Gr V V w6 w10:=fun V i hi => .inl hi
   refine ⟨⟨i1,k1,bn,_,rfl,by omega,rfl,hla1.symm,hp9.kp hk hpq,by rw [← hMb]; exact hm10,fun n b hb => ?_,((hR7.nw k8).nw m9).kp_ hk fun i hi (e:i = q) => by have:=hFl i hi; omega,(k06.trans k69 fun _ _ e => e).trans hk fun i hi (e:i = q) => by omega,by have:=hk.size; have:=k69.size; omega⟩,by simp [intOf]; omega⟩
   have kV:Kp (fun j => j < w.heap.size ∨ j = p ∨ j = q) w6 w10:=k610.mono fun i _ e => e.elim (fun e => .inl (e ▸ hhw)) fun e => .inr (.inr e)
   rw [htl] at hb
   by_cases hnb:n = bn
   ·rw [if_pos hnb] at hb ⊢
    cases hb
    exact (hO9.rb.ofl (T:=fun j => j < w.heap.size ∨ j = p ∨ j = q) fun i hi => .inl (by omega)).kp (hk.mono fun i _ (e:i = q) => .inr (.inr e))
   ·rw [if_neg hnb] at hb ⊢
    exact (hb6 n b hb).step kV fun i hi => .inl hi
  ·rw [hok] at hno; cases hno
section
variable {w w':World} {t p q r:Nat} {T:Stt} {F V V':Nat → Prop} {ptr rb:Nm → Nat} {vb:Nm → Nm → Value} {Fs:Nm → Nat → Prop}
theorem UsrAt.narrow {u:Usr} {vs:Nm → Value} (h:UsrAt w p r u V vs) (hV:∀ i,V' i → V i):UsrAt w p r u V' vs:=⟨h.blk,h.mp,fun n b hb => (h.bx n b hb).ofl fun i hi => .inl (hV i hi)⟩
theorem SttM.narrow (h:SttM w t T F V r ptr rb vb Fs) (hV:∀ i,V' i → V i) (hF:∀ i,F i → V' i):SttM w t T F V' r ptr rb vb Fs :=
 ⟨h.blk,h.mp,fun s u hu => ⟨(h.us s u hu).1.narrow hV,(h.us s u hu).2⟩,h.apart,h.inn,h.ne,h.ft,h.fr,h.lt,hF⟩
theorem SttA.narrow (h:SttA w t T F V) (hV:∀ i,V' i → V i) (hF:∀ i,F i → V' i):SttA w t T F V':=by
 obtain ⟨r,ptr,rb,vb,Fs,h⟩:=h
 exact ⟨r,ptr,rb,vb,Fs,h.narrow hV hF⟩
/-- One more user, in new blocks; besides, what lies outside the state may have turned. -/
theorem SttM.userK (h:SttM w t T F V r ptr rb vb Fs) (hVl:∀ i,V i → i < w.heap.size) {S:Nat → Prop} {s:Nm} {u:Usr} (hu:tLook T.us s = none) (k:Kp (fun i => S i ∨ i = r) w w') (hS:∀ i,S i → V i ∧ ¬ F i) {vs:Nm → Value}
  (hp:w.heap.size ≤ p) (hq:w.heap.size ≤ q) (hpq:p ≠ q) (hp1:p < w'.heap.size) (hq1:q < w'.heap.size) (hU:UsrAt w' p q u (fun i => V i ∨ i = p ∨ i = q) vs) (hm:Mp w' r (fun l:Nm => str l) (put (Mu ptr T.us) s (.pointer (some ⟨p,0,none⟩)))) :
  SttM w' t { T with us:=tLay T.us s u } (fun i => F i ∨ i = p ∨ i = q) (fun i => V i ∨ i = p ∨ i = q) r (fun x => if x = s then p else ptr x) (fun x => if x = s then q else rb x) (fun x => if x = s then vs else vb x) (fun x i => if x = s then i = p ∨ i = q else Fs x i):=by
 have hF:∀ i,F i → i < w.heap.size:=h.lt
 have hrl:=hF r h.fr
 have htl:=hF t h.ft
 have hSV:∀ i,(S i ∨ i = r) → V i:=fun i hi => hi.elim (fun e => (hS i e).1) fun e => e ▸ h.fv r h.fr
 have hSx:∀ x i,Fs x i → ¬ (S i ∨ i = r):=fun x i hi e => e.elim (fun e => (hS i e).2 (h.inn x i hi).1) (h.inn x i hi).2.2
 have hG:Gr V (fun i => V i ∨ i = p ∨ i = q) w w':=fun i hi => hi.imp id fun e => by rcases e with rfl | rfl <;> omega
 refine ⟨h.blk.kp k fun e => e.elim (fun e => (hS t e).2 h.ft) fun (e:t = r) => h.ne e,?_,fun x v hx => ?_,fun x y i hxy hx hy => ?_,fun x i hi => ?_,h.ne,.inl h.ft,.inl h.fr,fun i hi => ?_,fun i hi => hi.imp (h.fv i) id⟩
 ·rw [← Mu_lay]
  exact hm
 ·have hx:tLook (tLay T.us s u) x = some v:=hx
  rw [tLook_lay] at hx
  by_cases hxs:x = s
  ·subst hxs
   rw [if_pos rfl] at hx
   cases hx
   simp only [if_pos rfl]
   exact ⟨hU,.inl rfl,.inr rfl,hpq⟩
  ·rw [if_neg hxs] at hx
   simp only [if_neg hxs]
   obtain ⟨g1,g2,g3,g4⟩:=h.us x v hx
   exact ⟨g1.step k hSV (hSx x _ g2) (hSx x _ g3) hG,g2,g3,g4⟩
 ·have lo:∀ z,(if z = s then i = p ∨ i = q else Fs z i) → z ≠ s → i < w.heap.size:=fun z hz hzs => by
   rw [if_neg hzs] at hz
   exact hF i (h.inn z i hz).1
  by_cases hxs:x = s
  ·have hys:y ≠ s:=fun e => hxy (hxs.trans e.symm)
   have:=lo y hy hys
   rw [if_pos hxs] at hx
   rcases hx with rfl | rfl <;> omega
  ·by_cases hys:y = s
   ·have:=lo x hx hxs
    rw [if_pos hys] at hy
    rcases hy with rfl | rfl <;> omega
   ·rw [if_neg hxs] at hx
    rw [if_neg hys] at hy
    exact h.apart x y i hxy hx hy
 ·by_cases hxs:x = s
  ·rw [if_pos hxs] at hi
   refine ⟨.inr hi,?_,?_⟩
   ·rcases hi with rfl | rfl <;> omega
   ·rcases hi with rfl | rfl <;> omega
  ·rw [if_neg hxs] at hi
   have:=h.inn x i hi
   exact ⟨.inl this.1,this.2⟩
 ·rcases hi with hi | rfl | rfl
  ·exact Nat.lt_of_lt_of_le (hF i hi) k.size
  ·exact hp1
  ·exact hq1
end
theorem simaged_spec (T:Stt) (V:Nat → Prop) (A:Option Addr) (c:Nat) (w:World) (ok:T.Ok) (hV:∀ k,V k → k < w.heap.size) (hr:Rd w A ((imgS T).map u8)) :
  Cal Tryz.prog 109 #[.slice A (imgS T).length c] w fun v w' => LoadR w w' v T V:=by
 have hil:=imgS_len ok
 have hll:=ok.len
 have hnx:=ok.next
 have hnC:(clampN T.next:Int) = T.next:=clamp_of (by omega) (by omega)
 have hcl:clampN (T.us.length:Int) = T.us.length:=clampN_nat (by omega)
 have hie:=imgS_eq T
 rw [hcl] at hie
 refine enter Tryz.mixed Tryz.func109 rfl (by kernel_rfl) ?_
 simp -dsimp [go_sem]
 refine call (empty_specV V w hV) ?_
 rintro v w1 ⟨t,FS0,rfl,k1,hFS0,hT1⟩
 simp -dsimp [go_sem]
 refine call (newReader_spec A c (imgS T) w1 (hr.nw k1) (by omega)) ?_
 rintro v w2 ⟨h,rfl,hhw,⟨F,hR2,hF⟩,k2⟩
 have hhF:=hF h hR2.in_
 have n2:=k1.nw k2
 have hs1:=k1.size
 have hT2:SttA w2 t Stt.zero FS0 (fun k => (V k ∨ FS0 k) ∨ k = h):=hT1.step k2 (fun _ e => e.elim) (fun i hi => hi.imp id fun e => by omega) fun i hi => .inl hi
 rw [hie] at hR2
 simp -dsimp [go_sem]
 have hl0:(numB (clampN T.next) ++ (numB T.us.length ++ T.us.flatMap imgU)).length ≤ 500000:=by rw [← hie]; exact hil
 have hl1:=hl0
 rw [List.length_append] at hl1
 refine call (rd_num hR2 (clampN_le _) (by omega)) ?_
 rintro v w3 ⟨rfl,hR3,k3⟩
 rw [hnC]
 have hhFS:¬ FS0 h:=fun e => by have:=hFS0 h e; omega
 have hT3:SttA w3 t Stt.zero FS0 (fun k => (V k ∨ FS0 k) ∨ k = h):=hT2.step k3 (fun i (e:i = h) => ⟨.inr e,fun e2 => hhFS (e ▸ e2)⟩) (fun i hi => .inl hi) fun i hi => hi
 obtain ⟨r,ptr,rb,vb,Fs,hM3⟩:=hT3
 have t0:=hM3.blk.cell 0
 have tf:=hM3.blk.frozen 0
 have hM4:=hM3.next T.next
 have htF:=hM3.ft
 have hFS0t:=hFS0 t htF
 have k4:Kp (At t) w3 (w3.setCell ⟨t,0,none⟩ (i64 T.next)):=(Kp.refl _ _).setCell_at _ _
 have hR4:=hR3.kp_ k4 fun i hi (e:i = t) => by have:=hF i hi; omega
 have n4:Nw w (w3.setCell ⟨t,0,none⟩ (i64 T.next)):=(n2.at_ k3 fun i (e:i = h) => by omega).at_ k4 fun i (e:i = t) => by omega
 simp -dsimp [go_sem,t0,tf]
 have hs3:=k3.size
 have hs4:=k4.size
 generalize w3.setCell ⟨t,0,none⟩ (i64 T.next) = w4 at *
 have hl2:(numB T.us.length ++ T.us.flatMap imgU).length ≤ 500000:=by rw [List.length_append] at hl0; omega
 refine call (rd_num hR4 (by omega) (by omega)) ?_
 rintro v w5 ⟨rfl,hR5,k5⟩
 have hM5:SttA w5 t ⟨T.next,T.us.take 0⟩ FS0 (fun k => (V k ∨ FS0 k) ∨ k = h):=SttA.step ⟨_,_,_,_,_,hM4⟩ k5 (fun i (e:i = h) => ⟨.inr e,fun e2 => hhFS (e ▸ e2)⟩) (fun i hi => .inl hi) fun i hi => hi
 have n5:=n4.at_ k5 fun i (e:i = h) => by omega
 have hs5:=k5.size
 obtain ⟨M,hM⟩:∃ M,M = T.us.length:=⟨_,rfl⟩
 rw [← hM]
 clear hM4 hR4 t0 tf
 simp -dsimp [go_sem]
 refine loop [6,7,8,9,20,21,22,23,24,25,26,27,28,29,30,31,32,33,34,35,36,37,38,39,40,41,42,43,44] (by kernel_rfl)
  (fun f w' => Box2 (fun a b w' => ∃ (i k:Nat) (l:Nm) (FS:Nat → Prop),a = i64 k ∧ i + k = M ∧ b = str l ∧ l = lastN T.us i ∧ SttA w' t ⟨T.next,T.us.take i⟩ FS (fun j => (V j ∨ FS j) ∨ j = h) ∧ (∀ j,FS j → w.heap.size ≤ j ∧ j < w'.heap.size ∧ ¬ F j) ∧
   Rdr w' h ((T.us.drop i).flatMap imgU) false F ∧ Nw w w' ∧ w2.heap.size ≤ w'.heap.size) (f 7) (f 6) w') (fun f _ => (intOf (f 7)).toNat)
  ⟨0,M,[],FS0,rfl,by omega,rfl,(lastN_zero _).symm,hM5,fun j hj => ⟨(hFS0 j hj).1,by have:=hFS0 j hj; omega,fun e => by have:=hF j e; have:=hFS0 j hj; omega⟩,by rw [List.drop_zero]; exact hR5,n5,by omega⟩ ?_
 rintro f w6 ⟨i,k,la,FS,f7,hik,f6,hla,hT6,hFS,hR6,n6,hs6⟩
 have hlen6:((T.us.drop i).flatMap imgU).length ≤ 500000:=by
  have e:T.us.flatMap imgU = (T.us.take i).flatMap imgU ++ (T.us.drop i).flatMap imgU:=by rw [← List.flatMap_append,List.take_append_drop]
  rw [List.length_append,e,List.length_append] at hl2
  omega
 have hhFS6:¬ FS h:=fun e => (hFS h e).2.2 hR6.in_
 have hFl6:∀ j,F j → j < w6.heap.size:=fun j hj => by have:=hF j hj; omega
 obtain ⟨r,ptr,rb,vb,Fs,hM6⟩:=hT6
 have t1:=hM6.blk.cell 1
 have t0:=hM6.blk.cell 0
 by_cases hk:k = 0
 ·subst hk
  have hiM:i = M:=by omega
  rw [hiM,hM,List.drop_length,List.flatMap_nil] at hR6
  rw [hiM,hM,List.take_length] at hM6
  simp -dsimp [go_sem,f7]
  refine call (whole_spec h [] false F w6 hR6) ?_
  rintro v w7 ⟨rfl,rfl⟩
  simp -dsimp [go_sem,t0]
  refine call (sin_spec T.next 1 1048576 w6) ?_
  rintro v w7 ⟨rfl,rfl⟩
  have hin:okF T.next 1 1048576 = true:=by unfold okF; simp; omega
  have hlen:=len_mp (ty:=3) KL hmu hM6.mp (keys_nodup ok.srt) (Mu_some ptr T.us)
  rw [show (keysA T.us).length = T.us.length by simp [keysA]] at hlen
  have h4:¬ 4 < T.us.length:=by omega
  have h4':¬ (4:Int) < (T.us.length:Int):=by omega
  simp -dsimp [go_sem,hin,t1,hlen,h4,h4']
  exact ⟨t,FS,rfl,n6,fun j hj => ⟨(hFS j hj).1,(hFS j hj).2.1⟩,⟨r,ptr,rb,vb,Fs,hM6.narrow (fun i hi => .inl hi) fun i hi => .inr hi⟩⟩
 ·have hkp:0 < k:=by omega
  have hkp':(0:Int) < (k:Int):=by omega
  obtain ⟨k1,hk1e⟩:∃ k1,k = k1 + 1:=⟨k - 1,by omega⟩
  have hkm:IntKind.i64.wrap ((k:Int) - 1) = (k1:Int):=by rw [w64 (by omega) (by omega)]; omega
  have hi:i < T.us.length:=by omega
  have hlk:=look_at ok.srt hi
  have hU:=ok.us _ _ hlk
  have hne:=nmOk_len hU.1
  have hlt:=lastN_lt ok.srt hi fun e => by rw [e] at hne; simp at hne
  rw [← hla] at hlt
  have hla1:=lastN_succ hi
  have htn:=take_none ok.srt hi
  have htl:=take_lay ok.srt hi
  rw [drop_users hi] at hR6 hlen6
  obtain ⟨i1,hi1⟩:∃ i1,i1 = i + 1:=⟨_,rfl⟩
  rw [← hi1] at hla1 htl hR6 hlen6
  generalize T.us[i] = Y at *
  obtain ⟨nm,u⟩:=Y
  simp only at hlk hU hne hlt hla1 htn htl hR6 hlen6
  have hg1:Op.bytesLess nm la = false:=by
   rw [less_nm,decide_eq_false fun e => nm_lt_irrefl _ (nm_lt_trans hlt e)]
  have hg2:(nm == la) = false:=by simpa using fun e => nm_ne hlt e.symm
  simp -dsimp [go_sem,f7,hkp,hkp']
  refine call (good_spec h _ false F w6 hR6) ?_
  rintro v w7 ⟨rfl,rfl⟩
  simp -dsimp [go_sem]
  refine call (staken_spec h nm u _ F w6 hR6 hFl6 hU.1 hU.2 (by omega)) ?_
  rintro v w7 ⟨p,q,vs,rfl,hp,hq,hpq,hp7,hq7,hU7,hR7,k7⟩
  have hrl:=hM6.lt r hM6.fr
  have hrh:¬ r = h:=fun e => hhFS6 (e ▸ hM6.fr)
  have hth:¬ t = h:=fun e => hhFS6 (e ▸ hM6.ft)
  have hm7:=hM6.mp.kp k7 hrh
  have t17:=k7.cell_some t1 hth
  obtain ⟨w8,hup,hm8,hk8⟩:=update_mp KL hmu hm7 nm (.pointer (some ⟨p,0,none⟩))
  simp -dsimp [go_sem,f6,hg1,hg2,t17,hup,f7,hkm]
  have K:Kp (fun i => i = h ∨ i = r) w6 w8:=(k7.mono fun i _ e => .inl e).trans hk8 fun i _ e => .inr e
  have hs7:=k7.size
  have hs8:=hk8.size
  have hVl:∀ j,((V j ∨ FS j) ∨ j = h) → j < w6.heap.size:=fun j hj => by
   rcases hj with (hj | hj) | hj
   ·exact Nat.lt_of_lt_of_le (hV j hj) n6.size
   ·exact (hFS j hj).2.1
   ·exact hj ▸ hFl6 h hR7.in_
  have hU8:=(hU7.step (V':=fun i => i < w6.heap.size ∨ i = p ∨ i = q) hk8 (fun i (e:i = r) => .inl (by omega)) (fun (e:p = r) => by omega) (fun (e:q = r) => by omega) fun i hi => .inl hi).narrow (V':=fun i => ((V i ∨ FS i) ∨ i = h) ∨ i = p ∨ i = q) fun i hi => hi.imp (hVl i) id
  have hS:=hM6.userK hVl (S:=At h) htn K (fun i (e:i = h) => ⟨.inr e,fun e2 => hhFS6 (e ▸ e2)⟩) hp hq hpq (by omega) (by omega) hU8 hm8
  simp only [htl] at hS
  have hpn:=n6.size
  refine ⟨⟨i1,k1,nm,fun j => FS j ∨ j = p ∨ j = q,rfl,by omega,rfl,hla1.symm,⟨_,_,_,_,_,hS.narrow (fun j hj => ?_) fun j hj => .inl (.inr hj)⟩,fun j hj => ?_,hR7.kp_ hk8 fun j hj (e:j = r) => (hFS r hM6.fr).2.2 (e ▸ hj),(n6.at_ k7 fun j (e:j = h) => by have:=hF h hR7.in_; omega).at_ hk8 fun j (e:j = r) => by have:=hFS r hM6.fr; omega,by omega⟩,by simp [intOf]; omega⟩
  ·rcases hj with (hj | hj | hj) | hj
   ·exact .inl (.inl (.inl hj))
   ·exact .inl (.inl (.inr hj))
   ·exact .inr hj
   ·exact .inl (.inr hj)
  ·rcases hj with hj | rfl | rfl
   ·exact ⟨(hFS j hj).1,by have:=hFS j hj; omega,(hFS j hj).2.2⟩
   ·exact ⟨by omega,by omega,fun e => by have:=hFl6 _ e; omega⟩
   ·exact ⟨by omega,by omega,fun e => by have:=hFl6 _ e; omega⟩
end Go.Proofs.YtellahclbhfdiaaGreatDoor
