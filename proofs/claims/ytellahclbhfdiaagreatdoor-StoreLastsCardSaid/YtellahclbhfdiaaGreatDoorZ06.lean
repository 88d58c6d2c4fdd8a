/-
  slices.Sort of integers, by the kit's contract. By the session itself. box: slices.Contains, mark.Apply, Expunge walked. By the session itself. box: Find walked. By the session itself. The reference's in, Name, Is; the laws' large. By the session itself. The reference's Same walked. By the session itself. The laws of box: known, large; BoxFull walked. By the session itself.
-/
import Derived.Test.YtellahclbhfdiaaGreatDoorZ04
import Derived.Test.YtellahclbhfdiaaGreatDoorZ03
import Derived.Test.YtellahclbhfdiaaGreatDoorZ05
import Derived.Lib.TrimByte
namespace Go.Proofs.YtellahclbhfdiaaGreatDoor
set_option linter.unusedSimpArgs false
set_option linter.unusedVariables false
set_option maxRecDepth 100000
set_option maxHeartbeats 1000000
open Go.Vc Go.RowKit Go.Sort
abbrev srtI (zs:List Int):List Int:=zs.mergeSort fun x y => decide (x ≤ y)
theorem isort_spec (zs:List Int) (n:Nat) (hn:n = zs.length) (hl:zs.length < 4611686018427387904) (A:Option Addr) (c:Nat) (w:World) (ho:Ow w 3 1 A n c (zs.map i64)) :
  Cal Tryz.prog 151 #[.slice A n c] w fun v w' => v = .tuple #[] ∧ Rd w' A ((srtI zs).map i64) ∧ Kp (blk A) w w':=by
 subst hn
 have hrd:=ho.rd
 obtain ⟨h1,h2,h3,⟨rfl,rfl⟩ | ⟨g,cur,rfl,hb,h5,h6⟩⟩:=id ho
 ·have hz:zs = []:=List.eq_nil_of_length_eq_zero (by omega)
  subst hz
  refine (AnyM.slices_Sort_int_none Tryz.sort151 none 0 w).mono fun e w' ⟨he,hw⟩ => ⟨_,he,rfl,?_,?_⟩
  ·rw [hw,show srtI [] = [] by simp [srtI]]; exact Rd.nil _ _
  ·rw [hw]; exact Kp.refl _ _
 ·have hlt:g < w.heap.size:=lt_of_heap hb
  have hH:Sort.Holds (Value.int .i64) w g 0 zs.toArray:=fun j hj => by
   have hj':j < zs.length:=by simpa using hj
   obtain ⟨b,o,e,hc⟩:=hrd j (i64 zs[j]) (by simp [hj'])
   cases e
   refine ⟨?_,hb.frozen _⟩
   rw [hc]
   simp [getElem!_pos,hj']
  refine (AnyM.slices_Sort_int Tryz.sort151 g 0 c zs w hH hlt hl).mono fun e w' ⟨he,n,os,hw⟩ => ⟨_,he,rfl,?_,?_⟩
  ·intro j u hj
   have hlen:(srtI zs).length = zs.length:=by simp [srtI]
   have hjl:j < (srtI zs).length:=by
    have:=(List.getElem?_eq_some_iff.1 hj).1
    simpa using this
   refine ⟨g,0,rfl,?_⟩
   have hu:u = i64 (srtI zs)[j]:=by
    rw [List.getElem?_map,List.getElem?_eq_getElem hjl] at hj
    simpa using hj.symm
   rw [hw,Sort.cell?_grow _ _ _ (by simpa using hlt),Sort.cell?_putRow _ (Sort.ahead w n) g 0 zs.toArray _ hH (by simp) j (by simpa using hjl),hu]
   simp [getElem!_pos,hjl]
   show ((srtI zs)[j]?).getD 0 = _
   rw [List.getElem?_eq_getElem hjl]
   rfl
  ·rw [hw]
   refine ⟨rfl,rfl,rfl,by simp,fun i hi hn => ?_⟩
   rw [Sort.heap_grow_old _ _ (by simpa using hi)]
   show ((Sort.ahead w n).heap.modify g _)[i]? = _
   rw [Array.getElem?_modify,if_neg (fun e => hn e.symm)]
   rfl
set_option maxHeartbeats 2000000
open Go.Vc Go.RowKit
theorem rd_int {w:World} {A:Option Addr} {zs:List Int} (h:Rd w A (zs.map i64)) {i:Nat} (hi:i < zs.length):∃ b o,A = some ⟨b,o,none⟩ ∧ w.cell? ⟨b,o + i,none⟩ = some (i64 zs[i]):=h i _ (by simp [hi])
theorem iindex_spec (zs:List Int) (z:Int) (A:Option Addr) (c:Nat) (w:World) (hr:Rd w A (zs.map i64)) (hl:zs.length ≤ 1000000000) :
  Cal Tryz.prog 198 #[.slice A zs.length c,i64 z] w fun v w' => (∃ k:Int,v = i64 k ∧ (0 ≤ k ↔ z ∈ zs)) ∧ w' = w:=by
 refine enter Tryz.mixed Tryz.func198 rfl (by kernel_rfl) ?_
 simp -dsimp [go_sem]
 refine loop [4,5,8,9,10,11,12,13,14,15,16,17,18] (by kernel_rfl) (fun f w' => Box1 (fun a w' => ∃ i:Nat,a = i64 i ∧ i ≤ zs.length ∧ z ∉ zs.take i ∧ w' = w) (f 8) w') (fun f _ => zs.length - (intOf (f 8)).toNat) ⟨0,rfl,by omega,by simp,rfl⟩ ?_
 rintro f w' ⟨i,f8,hi,hno,rfl⟩
 by_cases hlt:i < zs.length
 ·have hi1:IntKind.i64.wrap ((i:Int) + 1) = ((i + 1:Nat):Int):=by rw [w64 (by omega) (by omega)]; omega
  obtain ⟨i1,hi1'⟩:∃ i1,i1 = i + 1:=⟨_,rfl⟩
  rw [← hi1'] at hi1
  obtain ⟨b,o,rfl,hc⟩:=rd_int hr hlt
  by_cases hz:z = zs[i]
  ·have hz':(z == zs[i]) = true:=by simp [hz]
   simp -dsimp [go_sem,f8,hlt,hc,hz']
   rw [hz]; exact List.getElem_mem hlt
  ·have hz':(z == zs[i]) = false:=by simpa using hz
   simp -dsimp [go_sem,f8,hlt,hc,hz',hi1]
   refine ⟨⟨i1,rfl,by omega,?_,rfl⟩,by simp [intOf]; omega⟩
   rw [hi1',List.take_succ_eq_append_getElem hlt]
   intro h
   rcases List.mem_append.1 h with h | h
   ·exact hno h
   ·exact hz (List.mem_singleton.1 h)
 ·obtain rfl:i = zs.length:=by omega
  rw [List.take_length] at hno
  simp -dsimp [go_sem,f8,hno]
theorem icontains_spec (zs:List Int) (z:Int) (A:Option Addr) (c:Nat) (w:World) (hr:Rd w A (zs.map i64)) (hl:zs.length ≤ 1000000000) :
  Cal Tryz.prog 149 #[.slice A zs.length c,i64 z] w fun v w' => v = .bool (decide (z ∈ zs)) ∧ w' = w:=by
 refine enter Tryz.mixed Tryz.func149 rfl (by kernel_rfl) ?_
 simp -dsimp [go_sem]
 refine call (iindex_spec zs z A c w hr hl) ?_
 rintro v w' ⟨⟨k,rfl,hk⟩,rfl⟩
 simp -dsimp [go_sem,hk]
def applyF (mode old flags:Int):Int :=
 if mode = 0 then bits .and .i64 flags 31
 else if mode = 1 then bits .or .i64 (bits .and .i64 old 31) (bits .and .i64 flags 31)
 else if mode = 2 then bits .andNot .i64 (bits .and .i64 old 31) (bits .and .i64 flags 31)
 else bits .and .i64 old 31
theorem apply_spec (mode old flags:Int) (w:World):Cal Tryz.prog 150 #[i64 mode,i64 old,i64 flags] w fun v w' => v = i64 (applyF mode old flags) ∧ w' = w:=by
 refine enter Tryz.mixed Tryz.func150 rfl (by kernel_rfl) ?_
 unfold applyF
 by_cases h0:mode = 0
 ·subst h0
  simp -dsimp [go_sem]
 ·have h0':(mode == 0) = false:=by simpa using h0
  by_cases h1:mode = 1
  ·subst h1
   simp -dsimp [go_sem]
  ·have h1':(mode == 1) = false:=by simpa using h1
   by_cases h2:mode = 2
   ·subst h2
    simp -dsimp [go_sem]
   ·have h2':(mode == 2) = false:=by simpa using h2
    simp -dsimp [go_sem,h0,h0',h1,h1',h2,h2']
def stayB (uids:List Int) (q:List Msg):List Msg:=q.filter fun m => !decide (m.uid ∈ uids)
def goneB (uids:List Int) (q:List Msg):List Int:=(q.filter fun m => decide (m.uid ∈ uids)).map (·.uid)
def stayQ (uids:List Int) (q:MQ):MQ:=q.filter fun p => !decide (p.1.uid ∈ uids)
theorem stayQ_fst (uids:List Int) (q:MQ):(stayQ uids q).map Prod.fst = stayB uids (q.map Prod.fst):=by
 unfold stayQ stayB
 rw [List.filter_map]
 rfl
theorem stay_len (uids:List Int) (q:List Msg):(stayB uids q).length ≤ q.length:=List.length_filter_le _ _
theorem gone_len (uids:List Int) (q:List Msg):(goneB uids q).length ≤ q.length:=by unfold goneB; rw [List.length_map]; exact List.length_filter_le _ _
/-- What Expunge hands back. -/
def ExpR (v:Value) (w':World) (b:Bx) (gone:List Int) (B:Nat):Prop:=∃ bv A n c,v = .tuple #[bv,.slice A n c] ∧ n = gone.length ∧ gone.length ≤ c ∧ OB w' bv b B ∧ Rd w' A (gone.map i64) ∧ Ofl A (gone.map i64) (fun k => k < B)
theorem expunge_spec (v:Value) (b:Bx) (S:Nat → Prop) (uids:List Int) (X:Option Addr) (xc:Nat) (w:World) (h:RB w v b S) (hl:b.L.length ≤ 1000000) (hbl:∀ m ∈ b.L,m.body.length ≤ 1000000000)
  (hx:Rd w X (uids.map i64)) (hxl:uids.length ≤ 1000000000) :
  Cal Tryz.prog 94 #[v,.slice X uids.length xc] w fun v' w' => ExpR v' w' { b with L:=stayB uids b.L } (srtI (goneB uids b.L)) w.heap.size ∧ Nw w w':=by
 obtain ⟨A,c,q,rfl,hq,hc,hr,ho,hb⟩:=id h
 refine enter Tryz.mixed Tryz.func94 rfl (by kernel_rfl) ?_
 simp -dsimp [go_sem]
 obtain ⟨x,hx',hb0,hz0,hsz,n0⟩:=two_new w 111 111 #[.string b.name,i64 b.val,i64 b.next,.slice A b.L.length c] #[.string ⟨#[]⟩,i64 0,i64 0,.slice none 0 0]
 rw [← hx']
 generalize (w.alloc (.cells #[.string b.name,i64 b.val,i64 b.next,.slice A b.L.length c] 111)).alloc (.cells #[.string ⟨#[]⟩,i64 0,i64 0,.slice none 0 0] 111) = wa at *
 refine call (copied_spec _ b S wa (h.nw n0) hl hbl) ?_
 rintro v1 w1 ⟨⟨vL,rfl,hO⟩,hk1⟩
 have hb1:=hb0.nw hk1
 have hz1:=hz0.nw hk1
 have n1:=n0.nw hk1
 rw [hsz] at hO
 obtain ⟨q2,A2,d2,rfl,hq2,ho2,hA2,hbd2⟩:=id hO
 have c0:=hb1.cell 0
 have c1:=hb1.cell 1
 have c2:=hb1.cell 2
 have c3:=hb1.cell 3
 have f0:=hb1.frozen 0
 have f1:=hb1.frozen 1
 have f2:=hb1.frozen 2
 have f3:=hb1.frozen 3
 have hb:=blk_set4 hb1 (.string b.name) (i64 b.val) (i64 b.next) (.slice A2 b.L.length d2)
 have ks:=kp_set4 w1 x (.string b.name) (i64 b.val) (i64 b.next) (.slice A2 b.L.length d2)
 have hz:=hz1.kp ks (by show ¬ x + 1 = x; omega)
 have hL:=hO.kp ks fun k hk _ (e:k = x) => by omega
 have n2:=n1.at_ ks fun k (e:k = x) => by omega
 have hs2:x + 2 ≤ w1.heap.size:=by rw [← hsz]; exact hk1.size
 have hs3:=Nat.le_trans hs2 ks.size
 have c3':=hb.cell 3
 simp -dsimp [go_sem,c0,c1,c2,c3,f0,f1,f2,f3,c3']
 generalize (((w1.setCell ⟨x,0,none⟩ (.string b.name)).setCell ⟨x,1,none⟩ (i64 b.val)).setCell ⟨x,2,none⟩ (i64 b.next)).setCell ⟨x,3,none⟩ (.slice A2 b.L.length d2) = w2 at *
 clear c0 c1 c2 c3 c3' f0 f1 f2 f3 hb0 hz0 hb1 hz1 ks hk1 ho2 hA2 hbd2 hq2 hO
 obtain ⟨q3,A3,d3,e3,hq3,ho3,hA3,hbd3⟩:=hL
 cases e3
 have hql:q3.length = b.L.length:=by rw [← hq3,List.length_map]
 obtain ⟨M,hM⟩:∃ M,M = w2.heap.size:=⟨_,rfl⟩
 refine loop [6,7,9,15,16,17,18,19,20,21,22,23,24,25,26,27,28,29,30,31,32] (by kernel_rfl)
  (fun f w' => Box3 (fun a vs vg w' => ∃ (i ns ng:Nat) (qs:MQ) (gl:List Int) (As Ag:Option Addr) (cs cg:Nat),qs = stayQ uids (q3.take i) ∧ gl = goneB uids ((q3.take i).map Prod.fst) ∧ ns = qs.length ∧ ng = gl.length ∧ a = i64 i ∧ i ≤ q3.length ∧ vs = .slice As ns cs ∧ vg = .slice Ag ng cg ∧
   Ow w' 186 4 As ns cs (mq qs) ∧ Ow w' 3 1 Ag ng cg (gl.map i64) ∧
   (∀ k,blk As k → M ≤ k) ∧ (∀ k,blk Ag k → M ≤ k) ∧ (∀ k,blk As k → ¬ blk Ag k) ∧ Kp (Fr M) w2 w') (f 15) (f 6) (f 7) w') (fun f _ => q3.length - (intOf (f 15)).toNat)
  ⟨0,0,0,[],[],none,none,0,0,rfl,rfl,rfl,rfl,rfl,by omega,rfl,rfl,Ow.nil _ _ _,Ow.nil _ _ _,(fun k h => h.elim),(fun k h => h.elim),(fun k h => h.elim),Kp.refl _ _⟩ ?_
 rintro f w' ⟨i,ns,ng,qs,gl,As,Ag,cs,cg,hqs,hgl',hns,hng,f15,hi,f6,f7,hos,hog,hAs,hAg,hsg,hK⟩
 have hsl:ns ≤ 1000000:=by
  have:=List.length_filter_le (fun p:Msg × Value => !decide (p.1.uid ∈ uids)) (q3.take i)
  rw [List.length_take] at this
  rw [hns,hqs]
  unfold stayQ; omega
 have hgl:ng ≤ 1000000:=by
  have:=gone_len uids ((q3.take i).map Prod.fst)
  rw [List.length_map,List.length_take] at this
  rw [hng,hgl']
  omega
 by_cases hlt:i < q3.length
 ·have hlt':i < b.L.length:=by omega
  have hi1:IntKind.i64.wrap ((i:Int) + 1) = ((i + 1:Nat):Int):=by rw [w64 (by omega) (by omega)]; omega
  obtain ⟨i1,hi1'⟩:∃ i1,i1 = i + 1:=⟨_,rfl⟩
  rw [← hi1'] at hi1
  have hlow:∀ a,A2 = some a → ¬ M ≤ a.block:=fun a ha => by have:=ho3.lt a ha; omega
  have ho':=ho3.kp hK hlow
  obtain ⟨a0,a1,a2,a3⟩:=mq_at q3 i hlt
  obtain ⟨g,o,rfl,e0⟩:=ho'.rd _ _ a0
  obtain ⟨_,_,e,e1⟩:=ho'.rd _ _ a1
  cases e
  obtain ⟨_,_,e,e2⟩:=ho'.rd _ _ a2
  cases e
  obtain ⟨_,_,e,e3⟩:=ho'.rd _ _ a3
  cases e
  obtain ⟨g',hg'⟩:=ho'.some (by omega)
  cases hg'
  rw [Nat.zero_add] at e0 e1 e2 e3
  have hbm:=hbd3 _ (List.getElem_mem hlt)
  have htk:q3.take i1 = q3.take i ++ [q3[i]]:=by rw [hi1',List.take_succ_eq_append_getElem hlt]
  generalize q3[i] = p at *
  obtain ⟨m,mv⟩:=p
  simp only at e0 e1 e2 e3 hbm
  obtain ⟨Bm,dm,rfl,hom,hBm⟩:=id hbm
  have ka:Nw w' (w'.alloc (.cells #[i64 m.uid,i64 m.flags,i64 m.date,.slice Bm m.body.length dm] 186)):=(Kp.refl _ _).alloc _
  have hq4:Blk (w'.alloc (.cells #[i64 m.uid,i64 m.flags,i64 m.date,.slice Bm m.body.length dm] 186)) w'.heap.size 186 #[i64 m.uid,i64 m.flags,i64 m.date,.slice Bm m.body.length dm]:=Blk.new _ _ _
  have hxq:Rd (w'.alloc (.cells #[i64 m.uid,i64 m.flags,i64 m.date,.slice Bm m.body.length dm] 186)) X (uids.map i64):=((hx.nw n2).kp hK (hx.ofl fun k (hk:M ≤ k) => by have:=n2.size; omega)).nw ka
  have y0:=hq4.cell 0
  have y1:=hq4.cell 1
  have y2:=hq4.cell 2
  have y3:=hq4.cell 3
  have hosq:=hos.nw ka
  have hogq:=hog.nw ka
  have hKq:Kp (Fr M) w2 (w'.alloc (.cells #[i64 m.uid,i64 m.flags,i64 m.date,.slice Bm m.body.length dm] 186)):=hK.trans (Nw.kp ka _) fun _ _ h => h
  simp -dsimp [go_sem,f15,hlt',e0,e1,e2,e3,y0]
  refine call (icontains_spec uids m.uid X xc _ hxq hxl) ?_
  rintro v4 w4 ⟨rfl,rfl⟩
  generalize w'.alloc (.cells #[i64 m.uid,i64 m.flags,i64 m.date,.slice Bm m.body.length dm] 186) = w4 at *
  obtain ⟨z,hz'⟩:∃ z,z = w'.heap.size:=⟨_,rfl⟩
  rw [← hz'] at y0 y1 y2 y3 hq4
  rw [← hz']
  have hMw:M ≤ w4.heap.size:=by rw [hM]; exact hKq.size
  have hAsl:∀ k,blk As k → k < w4.heap.size:=fun k hk => by
   obtain ⟨a,rfl,rfl⟩:=blk_of hk
   exact hosq.lt a rfl
  have hAgl:∀ k,blk Ag k → k < w4.heap.size:=fun k hk => by
   obtain ⟨a,rfl,rfl⟩:=blk_of hk
   exact hogq.lt a rfl
  by_cases hu:m.uid ∈ uids
  ·have hstay:qs = stayQ uids (q3.take i1):=by rw [htk,hqs]; unfold stayQ; rw [List.filter_append]; simp [hu]
   have hgone:gl ++ [m.uid] = goneB uids ((q3.take i1).map Prod.fst):=by rw [htk,hgl']; unfold goneB; simp [hu]
   simp -dsimp [go_sem,hu,y0,f7]
   have kb:Nw w4 (w4.alloc (.cells #[i64 m.uid] 3)):=(Kp.refl _ _).alloc _
   refine app Tryz.Sint (hogq.nw kb) (ys:=[i64 m.uid]) (Rd.fresh rfl rfl) (m:=1) rfl (by simp; rfl) (by omega) (by omega) ?_
   intro A5 c5 w5 ho5 hk5 hAA
   have hk45:Kp (blk Ag) w4 w5:=(Nw.kp kb _).trans hk5 fun _ _ h => h
   rw [show gl.map i64 ++ [i64 m.uid] = (gl ++ [m.uid]).map i64 by simp] at ho5
   obtain ⟨n5,hn5⟩:∃ n5,n5 = ng + 1:=⟨_,rfl⟩
   rw [← hn5] at ho5 ⊢
   simp -dsimp [go_sem,f15,f6,hi1]
   refine ⟨⟨i1,ns,n5,qs,gl ++ [m.uid],As,A5,cs,c5,hstay,hgone,hns,by rw [List.length_append,hn5,hng]; rfl,rfl,by omega,rfl,rfl,hosq.kp hk45 (Off.of_blk fun k hk => hsg k hk),ho5,hAs,fun k hk => ?_,fun k hk hk' => ?_,hKq.trans hk45 fun k _ h => hAg k h⟩,by simp [intOf]; omega⟩
   ·rcases hAA with rfl | ⟨rfl,_⟩
    ·exact hAg k hk
    ·have hk:k = (w4.alloc (.cells #[i64 m.uid] 3)).heap.size:=hk
     rw [hk]; exact Nat.le_trans hMw kb.size
   ·rcases hAA with rfl | ⟨rfl,_⟩
    ·exact hsg k hk hk'
    ·have hk':k = (w4.alloc (.cells #[i64 m.uid] 3)).heap.size:=hk'
     have:=hAsl k hk
     have:=kb.size
     omega
  ·have hstay:qs ++ [(m,.slice Bm m.body.length dm)] = stayQ uids (q3.take i1):=by rw [htk,hqs]; unfold stayQ; rw [List.filter_append]; simp [hu]
   have hgone:gl = goneB uids ((q3.take i1).map Prod.fst):=by rw [htk,hgl']; unfold goneB; simp [hu]
   simp -dsimp [go_sem,hu,y0,y1,y2,y3,f6]
   have kb:Nw w4 (w4.alloc (.cells #[i64 m.uid,i64 m.flags,i64 m.date,.slice Bm m.body.length dm] 186)):=(Kp.refl _ _).alloc _
   refine app Smsg (hosq.nw kb) (ys:=mq [(m,.slice Bm m.body.length dm)]) (Rd.fresh rfl rfl) (m:=1) rfl (fun u hu => by
    simp [mq] at hu
    rcases hu with rfl | rfl | rfl | rfl
    ·rfl
    ·rfl
    ·rfl
    ·cases Bm <;> rfl) (by omega) (by omega) ?_
   intro A5 c5 w5 ho5 hk5 hAA
   have hk45:Kp (blk As) w4 w5:=(Nw.kp kb _).trans hk5 fun _ _ h => h
   rw [← mq_app] at ho5
   obtain ⟨n5,hn5⟩:∃ n5,n5 = ns + 1:=⟨_,rfl⟩
   rw [← hn5] at ho5 ⊢
   simp -dsimp [go_sem,f15,f7,hi1]
   refine ⟨⟨i1,n5,ng,_,gl,A5,Ag,c5,cg,hstay,hgone,by rw [List.length_append,hn5,hns]; rfl,hng,rfl,by omega,rfl,rfl,ho5,hogq.kp hk45 (Off.of_blk fun k hk h => hsg k h hk),fun k hk => ?_,hAg,fun k hk hk' => ?_,hKq.trans hk45 fun k _ h => hAs k h⟩,by simp [intOf]; omega⟩
   ·rcases hAA with rfl | ⟨rfl,_⟩
    ·exact hAs k hk
    ·have hk:k = (w4.alloc (.cells #[i64 m.uid,i64 m.flags,i64 m.date,.slice Bm m.body.length dm] 186)).heap.size:=hk
     rw [hk]; exact Nat.le_trans hMw kb.size
   ·rcases hAA with rfl | ⟨rfl,_⟩
    ·exact hsg k hk hk'
    ·have hk:k = (w4.alloc (.cells #[i64 m.uid,i64 m.flags,i64 m.date,.slice Bm m.body.length dm] 186)).heap.size:=hk
     have:=hAgl k hk'
     have:=kb.size
     omega
 ·obtain rfl:i = q3.length:=by omega
  have hge:¬ q3.length < b.L.length:=by omega
  rw [List.take_length] at hqs hgl'
  rw [hq3] at hgl'
  have hxM:x + 2 ≤ M:=by omega
  have hb':=hb.kp hK (by show ¬ M ≤ x; omega)
  have hz':=hz.kp hK (by show ¬ M ≤ x + 1; omega)
  have n3:Nw w w':=Nw.fr n2 hK (by have:=n2.size; omega)
  have c3:=hb'.cell 3
  have f3:=hb'.frozen 3
  have ks:Kp (At x) w' (w'.setCell ⟨x,3,none⟩ (.slice As ns cs)):=(Kp.refl _ _).setCell_at _ _
  have hb4:Blk (w'.setCell ⟨x,3,none⟩ (.slice As ns cs)) x 111 #[.string b.name,i64 b.val,i64 b.next,.slice As ns cs]:=by simpa using hb'.set 3 (.slice As ns cs)
  have hz4:=hz'.kp ks (by show ¬ x + 1 = x; omega)
  have n4:=n3.at_ ks fun k (e:k = x) => by omega
  have hos4:=hos.kp ks (Off.of_blk fun k hk (e:k = x) => by have:=hAs k hk; omega)
  have hog4:=hog.kp ks (Off.of_blk fun k hk (e:k = x) => by have:=hAg k hk; omega)
  simp -dsimp [go_sem,f15,hge,f6,f7,c3,f3]
  generalize w'.setCell ⟨x,3,none⟩ (.slice As ns cs) = w4 at *
  have K4:Kp (fun k => M ≤ k ∨ k = x) w2 w4:=(hK.mono fun k _ h => .inl h).trans ks fun k _ h => .inr h
  clear ks c3 f3
  refine call (isort_spec gl ng hng (by omega) Ag cg w4 hog4) ?_
  rintro v5 w5 ⟨rfl,hr5,hk5⟩
  have hb:=hb4.kp hk5 (fun h => by have:=hAg x h; omega)
  have hz:=hz4.kp hk5 (fun h => by have:=hAg (x + 1) h; omega)
  have n5:Nw w w5:=n4.at_ hk5 fun k h => by have:=hAg k h; have:=n2.size; omega
  have hsf:qs.map Prod.fst = stayB uids b.L:=by rw [hqs,stayQ_fst,hq3]
  have hnl:ns = (stayB uids b.L).length:=by rw [hns,← hsf,List.length_map]
  have hL5:OL w5 (.slice As ns cs) (stayB uids b.L) (x + 2):=by
   refine ⟨qs,As,cs,by rw [hnl],hsf,?_,fun a ha => ?_,fun p hp => (hbd3 p ?_).to (by rw [← hM]; exact hAs) (K4.trans hk5 fun k _ h => .inl (hAg k h)) fun k h1 h2 h3 => by omega⟩
   ·rw [← hnl]; exact hos4.kp hk5 (Off.of_blk fun k hk => hsg k hk)
   ·have:=hAs a.block (by rw [ha]; rfl); omega
   ·rw [hqs] at hp; exact (List.mem_filter.1 hp).1
  have c0:=hb.cell 0
  have c1:=hb.cell 1
  have c2:=hb.cell 2
  have c3:=hb.cell 3
  have z0:=hz.cell 0
  have z1:=hz.cell 1
  have z2:=hz.cell 2
  have z3:=hz.cell 3
  have f0:=hz.frozen 0
  have f1:=hz.frozen 1
  have f2:=hz.frozen 2
  have f3:=hz.frozen 3
  simp -dsimp [go_sem,c0,c1,c2,c3,z0,z1,z2,z3,f0,f1,f2,f3,f7,f6]
  obtain ⟨h1,h2⟩:=ob_out (b:={ b with L:=stayB uids b.L }) hL5 n5 hx'
  have ks:=kp_set4 w5 (x + 1) (.string b.name) (i64 b.val) (i64 b.next) (.slice As ns cs)
  refine ⟨⟨_,Ag,ng,cg,rfl,by rw [← hgl',hng]; simp [srtI],?_,h1,?_⟩,h2⟩
  ·have:=hog4.2.1
   rw [← hgl']; simp [srtI]; omega
  ·rw [← hgl']
   refine ⟨hr5.kp ks ((Off.of_blk fun k hk (e:k = x + 1) => by have:=hAg k hk; omega).l _),fun a ha _ hk => ?_⟩
   have h1:=hAg a.block (by rw [ha]; rfl)
   have h2:=n2.size
   have hk:a.block < x:=hk
   omega
theorem mid_get {α:Type} (l r:List α) (a:α) (i:Nat) (h:l.length = i) (hi:i < (l ++ a :: r).length):(l ++ a :: r)[i]'hi = a:=by subst h; simp
theorem mid_set {α:Type} (l r:List α) (a c:α) (i:Nat) (h:l.length = i):(l ++ a :: r).set i c = (l ++ [c]) ++ r:=by subst h; simp
/-- A box in memory, its messages at hand. -/
theorem msg_at {w:World} {A:Option Addr} {q:MQ} (hr:Rd w A (mq q)) {i:Nat} (hi:i < q.length) :
  ∃ g o,A = some ⟨g,o,none⟩ ∧ w.cell? ⟨g,o + i * 4,none⟩ = some (i64 q[i].1.uid) ∧ w.cell? ⟨g,o + i * 4 + 1,none⟩ = some (i64 q[i].1.flags) ∧ w.cell? ⟨g,o + i * 4 + 2,none⟩ = some (i64 q[i].1.date) ∧ w.cell? ⟨g,o + i * 4 + 3,none⟩ = some q[i].2:=by
 obtain ⟨a0,a1,a2,a3⟩:=mq_at q i hi
 obtain ⟨g,o,rfl,e0⟩:=hr _ _ a0
 obtain ⟨_,_,e,e1⟩:=hr _ _ a1
 cases e
 obtain ⟨_,_,e,e2⟩:=hr _ _ a2
 cases e
 obtain ⟨_,_,e,e3⟩:=hr _ _ a3
 cases e
 exact ⟨g,o,rfl,e0,e1,e2,e3⟩
theorem rin_spec (n lo hi:Int) (w:World):Cal Tryz.prog 173 #[i64 n,i64 lo,i64 hi] w fun v w' => v = .bool (okF n lo hi) ∧ w' = w:=by
 refine enter Tryz.mixed Tryz.func173 rfl (by kernel_rfl) ?_
 by_cases h1:lo ≤ n
 ·simp -dsimp [go_sem,h1,okF]
 ·simp -dsimp [go_sem,h1,okF]
def okC1 (c:UInt8):Bool:=!((decide (c.toNat < 97) || decide (122 < c.toNat)) && (decide (c.toNat < 48) || decide (57 < c.toNat)))
def nameOk (s:ByteArray):Bool:=s.data.toList.all okC1 && decide (1 ≤ s.size) && decide (s.size ≤ 12)
theorem rname_spec (s:ByteArray) (w:World) (hl:s.size ≤ 9223372036854775807):Cal Tryz.prog 48 #[.string s] w fun v w' => v = .bool (nameOk s) ∧ w' = w:=by
 refine enter Tryz.mixed Tryz.func48 rfl (by kernel_rfl) ?_
 simp -dsimp [go_sem]
 refine loop [2,3,4,5,6,7,8,9,10,11,12,13,14,15,16,17,18,19,20,21,22,23,24,25,26,27,28,29,30,31] (by kernel_rfl)
  (fun f w' => Box1 (fun a w' => ∃ i:Nat,a = i64 i ∧ i ≤ s.size ∧ (s.data.toList.take i).all okC1 = true ∧ w' = w) (f 3) w') (fun f _ => s.size - (intOf (f 3)).toNat) ⟨0,rfl,by omega,by simp,rfl⟩ ?_
 rintro f w' ⟨i,f3,hi,hall,rfl⟩
 have hsl:s.data.toList.length = s.size:=by rw [Array.length_toList]; rfl
 by_cases hlt:i < s.size
 ·have hlt':(i:Int) < (s.size:Int):=by omega
  have hil:i < s.data.toList.length:=by omega
  have hi1:IntKind.i64.wrap ((i:Int) + 1) = ((i + 1:Nat):Int):=by rw [w64 (by omega) (by omega)]; omega
  have htk:s.data.toList.take (i + 1) = s.data.toList.take i ++ [s.data.toList[i]]:=List.take_succ_eq_append_getElem hil
  obtain ⟨i1,hi1'⟩:∃ i1,i1 = i + 1:=⟨_,rfl⟩
  rw [← hi1'] at hi1 htk
  have hget:∀ h,s[i]'h = s.data.toList[i]:=fun h => by show s.data[i] = _; rw [Array.getElem_toList]
  have hfail:okC1 s.data.toList[i] = false → nameOk s = false:=fun h => by
   unfold nameOk
   rw [List.all_eq_false.2 ⟨_,List.getElem_mem hil,by simpa using h⟩]
   rfl
  obtain ⟨ch,hch⟩:∃ ch,ch = s.data.toList[i]:=⟨_,rfl⟩
  rw [← hch] at htk hfail
  have hget':∀ h,s[i]'h = ch:=fun h => by rw [hget,hch]
  have hgo:okC1 ch = true → (s.data.toList.take i1).all okC1 = true:=fun h => by rw [htk,List.all_append,hall]; simp [h]
  have hcl:=UInt8.toNat_lt ch
  by_cases c1:ch.toNat < 97
  ·have c1':(ch.toNat:Int) < 97:=by omega
   by_cases c3:ch.toNat < 48
   ·have c3':(ch.toNat:Int) < 48:=by omega
    have hf:=hfail (by simp [okC1,c1,c3])
    simp -dsimp [go_sem,f3,hlt,hlt',hget',c1',c3',hf]
   ·have c3':¬ (ch.toNat:Int) < 48:=by omega
    by_cases c4:57 < ch.toNat
    ·have c4':57 < (ch.toNat:Int):=by omega
     have hf:=hfail (by simp [okC1,c1,c3,c4])
     simp -dsimp [go_sem,f3,hlt,hlt',hget',c1',c3',c4',hf]
    ·have c4':¬ 57 < (ch.toNat:Int):=by omega
     have hg:=hgo (by simp [okC1,c1,c3,c4])
     simp -dsimp [go_sem,f3,hlt,hlt',hget',c1',c3',c4',hi1]
     exact ⟨⟨i1,rfl,by omega,hg,rfl⟩,by simp [intOf]; omega⟩
  ·have c1':¬ (ch.toNat:Int) < 97:=by omega
   by_cases c2:122 < ch.toNat
   ·have c2':122 < (ch.toNat:Int):=by omega
    have c3':¬ (ch.toNat:Int) < 48:=by omega
    have c4':57 < (ch.toNat:Int):=by omega
    have hf:=hfail (by simp [okC1,c2]; omega)
    simp -dsimp [go_sem,f3,hlt,hlt',hget',c1',c2',c3',c4',hf]
   ·have c2':¬ 122 < (ch.toNat:Int):=by omega
    have hg:=hgo (by simp [okC1,c1,c2])
    simp -dsimp [go_sem,f3,hlt,hlt',hget',c1',c2',hi1]
    exact ⟨⟨i1,rfl,by omega,hg,rfl⟩,by simp [intOf]; omega⟩
 ·obtain rfl:i = s.size:=by omega
  have hall':s.data.toList.all okC1 = true:=by rw [List.take_of_length_le (by omega)] at hall; exact hall
  by_cases hz:1 ≤ s.size
  ·have hz':(1:Int) ≤ (s.size:Int):=by omega
   simp -dsimp [go_sem,f3,hz,hz',nameOk,hall']
   omega
  ·have hz':¬ (1:Int) ≤ (s.size:Int):=by omega
   simp -dsimp [go_sem,f3,hz,hz',nameOk,hall']
def msgsOk:Int → Int → List Msg → Bool
 | _,_,[] => true
 | last,next,m :: l => decide (last < m.uid) && decide (m.uid < next) && okF m.flags 0 31 && okF m.date 0 1073741824 && decide (m.body.length ≤ 1200) && msgsOk m.uid next l
def isB (b:Bx):Bool:=decide (b.L.length ≤ 24) && msgsOk 0 b.next b.L && nameOk b.name && okF b.val 1 1048576 && okF b.next 1 1048576
def lastU (l:List Msg):Int:=(l.getLast?.map (·.uid)).getD 0
theorem msgsOk_app:∀ (last next:Int) (l r:List Msg),msgsOk last next (l ++ r) = (msgsOk last next l && msgsOk (((l.getLast?.map (·.uid)).getD last)) next r)
 | last,next,[],r => by simp [msgsOk]
 | last,next,m :: l,r => by
  simp only [List.cons_append,msgsOk,msgsOk_app m.uid next l r,Bool.and_assoc]
  congr 6
  cases l with
  | nil => rfl
  | cons x l => rw [List.getLast?_cons_cons]; cases h:(x :: l).getLast? <;> simp_all
theorem ris_spec (v:Value) (b:Bx) (S:Nat → Prop) (w:World) (h:RB w v b S) (hn:b.name.size ≤ 9223372036854775807) (hll:b.L.length ≤ 9223372036854775807) :
  Cal Tryz.prog 113 #[v] w fun v' w' => v' = .bool (isB b) ∧ Nw w w':=by
 obtain ⟨A,c,q,rfl,hq,hc,hr,ho,hb⟩:=h
 have hql:q.length = b.L.length:=by rw [← hq,List.length_map]
 refine enter Tryz.mixed Tryz.func113 rfl (by kernel_rfl) ?_
 have k0:Nw w (w.alloc (.cells #[.string b.name,i64 b.val,i64 b.next,.slice A b.L.length c] 111)):=(Kp.refl _ _).alloc _
 have hb0:Blk (w.alloc (.cells #[.string b.name,i64 b.val,i64 b.next,.slice A b.L.length c] 111)) w.heap.size 111 #[.string b.name,i64 b.val,i64 b.next,.slice A b.L.length c]:=Blk.new _ _ _
 obtain ⟨x,hx⟩:∃ x,x = w.heap.size:=⟨_,rfl⟩
 simp -dsimp [go_sem]
 rw [← hx] at hb0 ⊢
 generalize w.alloc (.cells #[.string b.name,i64 b.val,i64 b.next,.slice A b.L.length c] 111) = wa at *
 refine loop [2,3,4,5,6,7,8,9,10,11,12,13,14,15,16,17,18,19,20,21,22,23,24,25,26,27,28,29,30,31,32,33,34,35,36,37,38,39,40,41,42,43,44,45,46,47,48,49,50,51,52,53,54] (by kernel_rfl)
  (fun f w' => Box2 (fun a l w' => ∃ i:Nat,a = i64 i ∧ i ≤ b.L.length ∧ (0 < i → b.L.length ≤ 24) ∧ msgsOk 0 b.next (b.L.take i) = true ∧ l = i64 (lastU (b.L.take i)) ∧ Nw wa w') (f 4) (f 3) w') (fun f _ => b.L.length - (intOf (f 4)).toNat)
  ⟨0,rfl,by omega,(fun h => by omega),rfl,rfl,Kp.refl _ _⟩ ?_
 rintro f w' ⟨i,f4,hi,h24,hok,f3,hK⟩
 have c0:=(hb0.nw hK).cell 0
 have c1:=(hb0.nw hK).cell 1
 have c2:=(hb0.nw hK).cell 2
 have c3:=(hb0.nw hK).cell 3
 by_cases hgo:i < b.L.length ∧ b.L.length ≤ 24
 ·obtain ⟨hlt,hle⟩:=hgo
  have hle':(b.L.length:Int) ≤ 24:=by omega
  have hi1:IntKind.i64.wrap ((i:Int) + 1) = ((i + 1:Nat):Int):=by rw [w64 (by omega) (by omega)]; omega
  obtain ⟨i1,hi1'⟩:∃ i1,i1 = i + 1:=⟨_,rfl⟩
  have htk:b.L.take i1 = b.L.take i ++ [b.L[i]]:=by rw [hi1']; exact List.take_succ_eq_append_getElem hlt
  rw [← hi1'] at hi1
  have hltq:i < q.length:=by omega
  obtain ⟨g,o,rfl,e0,e1,e2,e3⟩:=msg_at ((hr.nw k0).nw hK) hltq
  have hqi:q[i].1 = b.L[i]:=by simp only [← hq,List.getElem_map]
  have hbq:=hb _ (List.getElem_mem hltq)
  rw [hqi] at e0 e1 e2 hbq
  have hnext:msgsOk 0 b.next (b.L.take i1) = msgsOk (lastU (b.L.take i)) b.next [b.L[i]]:=by rw [htk,msgsOk_app,hok]; rfl
  have hfail:msgsOk (lastU (b.L.take i)) b.next [b.L[i]] = false → isB b = false:=fun h => by
   have h2:b.L = b.L.take i1 ++ b.L.drop i1:=(List.take_append_drop i1 b.L).symm
   have h3:msgsOk 0 b.next b.L = false:=by
    conv => lhs; rw [h2]
    rw [msgsOk_app,hnext,h]; rfl
   unfold isB; rw [h3]; simp
  have hlast:lastU (b.L.take i1) = b.L[i].uid:=by unfold lastU; rw [htk,List.getLast?_concat]; rfl
  generalize lastU (b.L.take i) = last at *
  generalize b.L[i] = m at *
  generalize q[i].2 = mv at *
  obtain ⟨Bm,dm,rfl,hrm,hom,hdm⟩:=hbq
  have ka:Nw w' (w'.alloc (.cells #[i64 m.uid,i64 m.flags,i64 m.date,.slice Bm m.body.length dm] 186)):=(Kp.refl _ _).alloc _
  have hq4:Blk (w'.alloc (.cells #[i64 m.uid,i64 m.flags,i64 m.date,.slice Bm m.body.length dm] 186)) w'.heap.size 186 #[i64 m.uid,i64 m.flags,i64 m.date,.slice Bm m.body.length dm]:=Blk.new _ _ _
  have y0:=hq4.cell 0
  have y1:=hq4.cell 1
  have y2:=hq4.cell 2
  have y3:=hq4.cell 3
  have c2a:=((hb0.nw hK).nw ka).cell 2
  have hKa:=hK.nw ka
  have hone:msgsOk last b.next [m] = (decide (last < m.uid) && decide (m.uid < b.next) && okF m.flags 0 31 && okF m.date 0 1073741824 && decide (m.body.length ≤ 1200)):=by simp [msgsOk]
  rw [hone] at hnext hfail
  obtain ⟨z,hz⟩:∃ z,z = w'.heap.size:=⟨_,rfl⟩
  rw [← hz] at hq4 y0 y1 y2 y3
  by_cases g1:m.uid ≤ last
  ·have hf:=hfail (by simp; omega)
   simp -dsimp [go_sem,f4,f3,c3,hlt,hle,hle',e0,e1,e2,e3,y0,g1,hf]
   exact k0.nw hKa
  ·by_cases g2:b.next ≤ m.uid
   ·have hf:=hfail (by simp; omega)
    simp -dsimp [go_sem,f4,f3,c3,hlt,hle,hle',e0,e1,e2,e3,y0,g1,g2,c2,c2a,hf]
    exact k0.nw hKa
   ·simp -dsimp [go_sem,f4,f3,c3,hlt,hle,hle',e0,e1,e2,e3,y0,y1,g1,g2,c2,c2a]
    rw [← hz]
    generalize w'.alloc (.cells #[i64 m.uid,i64 m.flags,i64 m.date,.slice Bm m.body.length dm] 186) = w4 at *
    refine call (rin_spec m.flags 0 31 w4) ?_
    rintro v5 w5 ⟨rfl,rfl⟩
    cases hfl:okF m.flags 0 31 with
    | false =>
     have hf:=hfail (by rw [hfl]; simp)
     simp -dsimp [go_sem,hf]
     exact k0.nw hKa
    | true =>
     simp -dsimp [go_sem,y2]
     refine call (rin_spec m.date 0 1073741824 _) ?_
     rintro v6 w6 ⟨rfl,rfl⟩
     cases hdl:okF m.date 0 1073741824 with
     | false =>
      have hf:=hfail (by rw [hdl]; simp)
      simp -dsimp [go_sem,hf]
      exact k0.nw hKa
     | true =>
      by_cases g5:1200 < m.body.length
      ·have g5':(1200:Int) < (m.body.length:Int):=by omega
       have hf:=hfail (by simp; omega)
       simp -dsimp [go_sem,y3,g5,g5',hf]
       exact k0.nw hKa
      ·have g5':¬ (1200:Int) < (m.body.length:Int):=by omega
       simp -dsimp [go_sem,y0,y3,g5,g5',f4,hi1]
       refine ⟨⟨i1,rfl,by omega,fun _ => hle,?_,by rw [hlast],hKa⟩,by simp [intOf]; omega⟩
       rw [hnext,hfl,hdl]; simp; omega
 ·have hgo':¬ (i < b.L.length) ∨ (i < b.L.length ∧ ¬ b.L.length ≤ 24):=by omega
  rcases hgo' with hge | ⟨hlt,hgt⟩
  ·have hii:b.L.take i = b.L:=List.take_of_length_le (by omega)
   rw [hii] at hok
   simp -dsimp [go_sem,f4,c3,hge,c0]
   refine call (rname_spec b.name _ hn) ?_
   rintro v5 w5 ⟨rfl,rfl⟩
   cases hnm:nameOk b.name with
   | false =>
    simp -dsimp [go_sem,isB,hnm]
    exact k0.nw hK
   | true =>
    simp -dsimp [go_sem,c1]
    refine call (rin_spec b.val 1 1048576 _) ?_
    rintro v6 w6 ⟨rfl,rfl⟩
    cases hvl:okF b.val 1 1048576 with
    | false =>
     simp -dsimp [go_sem,isB,hvl]
     exact k0.nw hK
    | true =>
     simp -dsimp [go_sem,c2]
     refine call (rin_spec b.next 1 1048576 _) ?_
     rintro v7 w7 ⟨rfl,rfl⟩
     cases hnx:okF b.next 1 1048576 with
     | false =>
      simp -dsimp [go_sem,isB,hnx]
      exact k0.nw hK
     | true =>
      simp -dsimp [go_sem,c3,isB,hnm,hvl,hnx,hok]
      exact ⟨by omega,k0.nw hK⟩
  ·have hgt':¬ (b.L.length:Int) ≤ 24:=by omega
   simp -dsimp [go_sem,f4,c3,hlt,hgt,hgt',c0]
   refine call (rname_spec b.name _ hn) ?_
   rintro v5 w5 ⟨rfl,rfl⟩
   cases hnm:nameOk b.name with
   | false =>
    simp -dsimp [go_sem,isB,hnm]
    exact k0.nw hK
   | true =>
    simp -dsimp [go_sem,c1]
    refine call (rin_spec b.val 1 1048576 _) ?_
    rintro v6 w6 ⟨rfl,rfl⟩
    cases hvl:okF b.val 1 1048576 with
    | false =>
     simp -dsimp [go_sem,isB,hvl]
     exact k0.nw hK
    | true =>
     simp -dsimp [go_sem,c2]
     refine call (rin_spec b.next 1 1048576 _) ?_
     rintro v7 w7 ⟨rfl,rfl⟩
     cases hnx:okF b.next 1 1048576 with
     | false =>
      simp -dsimp [go_sem,isB,hnx]
      exact k0.nw hK
     | true =>
      simp -dsimp [go_sem,c3,isB,hnm,hvl,hnx,hgt,hgt']
      exact k0.nw hK
theorem OB.open_ {w:World} {v:Value} {b:Bx} {B:Nat} (h:OB w v b B):∃ A c,v = .agg #[.string b.name,i64 b.val,i64 b.next,.slice A b.L.length c]:=by
 obtain ⟨vL,rfl,q,A,c,rfl,_⟩:=h
 exact ⟨A,c,rfl⟩
theorem RB.open_ {w:World} {v:Value} {b:Bx} {S:Nat → Prop} (h:RB w v b S):∃ A c,v = .agg #[.string b.name,i64 b.val,i64 b.next,.slice A b.L.length c]:=by
 obtain ⟨A,c,q,rfl,_⟩:=h
 exact ⟨A,c,rfl⟩
end Go.Proofs.YtellahclbhfdiaaGreatDoor
