/-
  The reference's Encode walked. By the session itself. A box's name told by ours. By the session itself.
-/
import Derived.Test.YtellahclbhfdiaaGreatDoorZ09
import Derived.Laws.IdiomStrings
import Derived.Test.YtellahclbhfdiaaGreatDoorZ03
import Derived.Test.YtellahclbhfdiaaGreatDoorZ07
import Derived.Shelf.Strings.SlTrimAscii
namespace Go.Proofs.YtellahclbhfdiaaGreatDoor
set_option linter.unusedSimpArgs false
set_option linter.unusedVariables false
set_option maxRecDepth 100000
set_option maxHeartbeats 2000000
open Go.Vc Go.RowKit
theorem conv_bytes {P:Program} {src dst e:TypeId} (hs:P.underlying src = some .string) (hd:P.underlying dst = some (.slice e)) (he:P.underlying e = some (.int .u8)) (s:ByteArray) (w:World) :
  ∃ A c w',(convert src dst (.string s)).run P w = .ok (.slice A s.data.toList.length c) w' ∧ Nw w w' ∧ Rd w' A (s.data.toList.map u8):=by
 refine ⟨_,_,_,run_bytes_of_string w src dst e s hs hd he,((Kp.refl _ w).drew).alloc _,fun j u hj => ⟨_,_,rfl,?_⟩⟩
 have hl:j < s.data.toList.length:=by simpa using (List.getElem?_eq_some_iff.1 hj).1
 rw [List.getElem?_map,List.getElem?_eq_getElem hl] at hj
 simp only [Option.map_some,Option.some.injEq] at hj
 subst hj
 have hl':j < s.data.size:=by simpa using hl
 have hl2:j < s.size:=hl'
 simp [World.cell?,World.alloc,World.drew,-World.alloc_eq,-World.drew_eq,bytesRow,Array.getElem?_append,hl',hl2,u8]
def encM (m:Msg):List UInt8:=numsB [m.uid,m.flags,m.date] ++ rowB m.body
def encX (b:Bx):List UInt8:=rowB b.name.data.toList ++ numsB [b.val,b.next,(b.L.length:Int)] ++ b.L.flatMap encM
def EncR (v:Value) (w:World) (b:Bx) (B:Nat):Prop:=(isB b = true ∧ ∃ u,v = .tuple #[u,i64 0] ∧ Bs w u (encX b) B) ∨ (isB b = false ∧ v = .tuple #[.slice none 0 0,i64 1])
theorem rowB_lenq {l:List UInt8} (h:l.length ≤ 100000000000000):(rowB l).length ≤ l.length + 9:=by
 unfold rowB
 have:=numB_len9 (n:=l.length) (by omega)
 rw [List.length_append]; omega
theorem encM_len {m:Msg} (h:m.body.length ≤ 1200):(encM m).length ≤ 1236:=by
 unfold encM
 have h1:=numsB_len [m.uid,m.flags,m.date]
 have h2:=rowB_lenq (l:=m.body) (by omega)
 rw [List.length_append]
 simp only [List.length_cons,List.length_nil] at h1
 omega
theorem encMs_len:∀ (l:List Msg),(∀ m ∈ l,m.body.length ≤ 1200) → (l.flatMap encM).length ≤ 1236 * l.length
 | [],_ => by simp
 | m :: l,h => by
  have:=encMs_len l fun m hm => h m (List.mem_cons_of_mem _ hm)
  have:=encM_len (h m (List.mem_cons_self ..))
  rw [List.flatMap_cons,List.length_append,List.length_cons]; omega
theorem rencode_spec (v:Value) (b:Bx) (w:World) (h:RB w v b (fun _ => False)) (hn:b.name.size ≤ 9223372036854775807) (hll:b.L.length ≤ 9223372036854775807) :
  Cal Tryz.prog 63 #[v] w fun v' w' => EncR v' w' b w.heap.size ∧ Nw w w':=by
 obtain ⟨A,c,q,rfl,hq,hc,hr,ho,hb⟩:=id h
 have hql:q.length = b.L.length:=by rw [← hq,List.length_map]
 refine enter Tryz.mixed Tryz.func63 rfl (by kernel_rfl) ?_
 have k0:Nw w (w.alloc (.cells #[.string b.name,i64 b.val,i64 b.next,.slice A b.L.length c] 111)):=(Kp.refl _ _).alloc _
 have hb0:Blk (w.alloc (.cells #[.string b.name,i64 b.val,i64 b.next,.slice A b.L.length c] 111)) w.heap.size 111 #[.string b.name,i64 b.val,i64 b.next,.slice A b.L.length c]:=Blk.new _ _ _
 obtain ⟨x,hx'⟩:∃ x,x = w.heap.size:=⟨_,rfl⟩
 simp -dsimp [go_sem]
 rw [← hx'] at hb0 ⊢
 generalize w.alloc (.cells #[.string b.name,i64 b.val,i64 b.next,.slice A b.L.length c] 111) = wa at *
 have c0:=hb0.cell 0
 have c1:=hb0.cell 1
 have c2:=hb0.cell 2
 have c3:=hb0.cell 3
 have hxa:=hb0.lt
 try simp -dsimp [go_sem,c0,c1,c2,c3]
 refine call (ris_spec _ b _ wa (h.nw k0) hn hll) ?_
 rintro v1 w1 ⟨rfl,hk1⟩
 have n1:=k0.nw hk1
 cases his:isB b with
 | false =>
  simp -dsimp [go_sem]
  exact ⟨.inr ⟨his,rfl⟩,n1⟩
 | true =>
  have hI:=IsB.of his
  have hlen:=hI.len
  have hnm:b.name.size ≤ 12:=by
   simp only [isB,Bool.and_eq_true,decide_eq_true_eq,nameOk] at his
   exact his.1.1.2.2
  have hnml:b.name.data.toList.length ≤ 12:=by simpa using hnm
  have hb1:=hb0.nw hk1
  clear c0 c1 c2 c3
  have c0:w1.cell? ⟨x,0,none⟩ = some (.string b.name):=hb1.cell 0
  have c1:w1.cell? ⟨x,1,none⟩ = some (i64 b.val):=hb1.cell 1
  have c2:w1.cell? ⟨x,2,none⟩ = some (i64 b.next):=hb1.cell 2
  have c3:w1.cell? ⟨x,3,none⟩ = some (.slice A b.L.length c):=hb1.cell 3
  have kd:Nw w1 w1.drew:=(Kp.refl _ _).drew
  have d0:=kd.cell_some c0 fun h => h
  have d1:=kd.cell_some c1 fun h => h
  have d2:=kd.cell_some c2 fun h => h
  have d3:=kd.cell_some c3 fun h => h
  simp -dsimp [go_sem]
  refine draw (.take 0 (.take 1 (.take 4 (.take 5 (.take 6 (.take 7 (.take 8 (.take 9 (.take 10 (.alt 2 (.alt 3 (.alt 11 (.alt 12 (.alt 13 (.take 14 .done) .stop) .stop) .stop) (.alt 11 (.alt 3 (.alt 12 (.alt 13 (.take 14 .done) .stop) .stop) .stop) .stop)) (.alt 11 (.alt 2 (.alt 3 (.alt 12 (.alt 13 (.take 14 .done) .stop) .stop) .stop) .stop) .stop))))))))))) (by kernel_rfl) (fun wz => Nw w1 wz) kd ?_
  simp -dsimp [go_sem,d0,d1,d2,d3]
  repeat refine ⟨fun wz hz => by simp [hz.cell_some c0 fun h => h,hz.cell_some c1 fun h => h,hz.cell_some c2 fun h => h,hz.cell_some c3 fun h => h],?_⟩
  have cvt:∀ W:World,∃ A c w',convR Tryz.prog 9 23 (.string b.name) W = .ok (.slice A b.name.data.toList.length c) w' ∧ Nw W w' ∧ Rd w' A (b.name.data.toList.map u8):=fun W => conv_bytes (e:=5) (by kernel_rfl) (by kernel_rfl) (by kernel_rfl) b.name W
  obtain ⟨nl,hnl⟩:∃ nl,nl = b.name.data.toList:=⟨_,rfl⟩
  rw [← hnl] at hnml cvt
  obtain ⟨z3,hz3⟩:∃ z3,z3 = [b.val,b.next,(b.L.length:Int)]:=⟨_,rfl⟩
  have hz3l:z3.length = 3:=by rw [hz3]; rfl
  have hz3w:∀ v ∈ z3,-9223372036854775808 ≤ v ∧ v ≤ 9223372036854775807:=by
   have h1:=hI.val
   have h2:=hI.next
   rw [hz3]
   intro v hv
   simp at hv
   rcases hv with rfl | rfl | rfl <;> omega
  have hz3m:#[i64 b.val,i64 b.next,i64 (b.L.length:Int)].toList = z3.map i64:=by rw [hz3]; rfl
  have nums3:∀ (W:World) P,Rd W P (z3.map i64) → Cal Tryz.prog 36 #[.slice P 3 3] W fun u w' => Bs w' u (numsB z3) W.heap.size ∧ Nw W w':=fun W P hr => by
   have:=refNums_spec z3 P 3 W hr hz3w (by omega)
   rw [hz3l] at this
   exact this
  have hz9:=numsB_len z3
  rw [hz3l] at hz9
  have hr9:=rowB_lenq (l:=nl) (by omega)
  refine ⟨?_,?_⟩
  ·obtain ⟨A1,d1,w2,ecv,k2,hr2⟩:=cvt w1.drew
   have k12:=kd.nw k2
   rw [ecv]
   simp -dsimp [go_sem]
   refine ⟨k12,?_,?_⟩
   ·refine call (refBytes_spec nl A1 d1 w2 hr2 (by omega)) ?_
    rintro va w3 ⟨hBa,hk3⟩
    refine ⟨k12.nw hk3,?_⟩
    simp -dsimp [go_sem]
    have ka:Nw w3 (w3.alloc (.cells #[i64 b.val,i64 b.next,i64 (b.L.length:Int)] 3)):=(Kp.refl _ _).alloc _
    have hrz:Rd (w3.alloc (.cells #[i64 b.val,i64 b.next,i64 (b.L.length:Int)] 3)) (some ⟨w3.heap.size,0,none⟩) (z3.map i64):=Rd.fresh rfl hz3m
    have kz:=(k12.nw hk3).nw ka
    have hBz:=hBa.nw ka
    have hB1:w1.heap.size ≤ w2.heap.size:=k12.size
    have hle:=Nat.le_trans hk3.size ka.size
    refine ⟨kz,?_⟩
    refine call (nums3 _ _ hrz) ?_
    rintro vb w4 ⟨hBb,hk4⟩
    have k14:=kz.nw hk4
    refine ⟨k14,?_⟩
    obtain ⟨A4,c4,rfl,ho4,hA4⟩:=hBb
    simp -dsimp [go_sem]
    refine bs_app (hBz.nw hk4) ho4.rd (by omega) (Nat.le_trans hle hk4.size) ?_
    intro v5 w5 hB5 hk5
    have k15:Nw w1 w5:=Nw.fr k14 hk5 hB1
    refine ⟨k15,?_⟩
    have hB5':=hB5.mono hB1
    obtain ⟨pre,hpre⟩:∃ pre,pre = rowB nl ++ numsB z3:=⟨_,rfl⟩
    have hprel:pre.length ≤ 60:=by rw [hpre,List.length_append]; omega
    rw [← hpre] at hB5'
    clear hB5 hk5 hBz
    simp -dsimp [go_sem]
    refine loop [4,5,6,24,25,26,27,28,29,30,31,32,33,34,35,36,37,38,39,40,41,42,43,44,45,46,47,48,49] (by kernel_rfl)
     (fun f w' => Box2 (fun a t w' => ∃ i:Nat,a = i64 i ∧ i ≤ b.L.length ∧ Bs w' t (pre ++ (b.L.take i).flatMap encM) w1.heap.size ∧ Nw w1 w') (f 5) (f 4) w') (fun f _ => b.L.length - (intOf (f 5)).toNat) ⟨0,rfl,by omega,by simpa [upd] using hB5',k15⟩ ?_
    rintro f w6 ⟨i,f5,hi,hB6,k16⟩
    have c3:w6.cell? ⟨x,3,none⟩ = some (.slice A b.L.length c):=(hb1.nw k16).cell 3
    by_cases hlt:i < b.L.length
    ·have hi1:IntKind.i64.wrap ((i:Int) + 1) = ((i + 1:Nat):Int):=by rw [w64 (by omega) (by omega)]; omega
     obtain ⟨i1,hi1'⟩:∃ i1,i1 = i + 1:=⟨_,rfl⟩
     rw [← hi1'] at hi1
     have hltq:i < q.length:=by omega
     obtain ⟨g,o,rfl,e0,e1,e2,e3⟩:=msg_at ((hr.nw n1).nw k16) hltq
     have hqi:q[i].1 = b.L[i]:=by simp only [← hq,List.getElem_map]
     have hbq:=hb _ (List.getElem_mem hltq)
     rw [hqi] at e0 e1 e2 hbq
     have hmI:=hI.all _ (List.getElem_mem hlt)
     have htk:(b.L.take i1).flatMap encM = (b.L.take i).flatMap encM ++ encM b.L[i]:=by rw [hi1',List.take_succ_eq_append_getElem hlt,List.flatMap_append]; simp
     have htl:=encMs_len (b.L.take i) fun m hm => (hI.all m (List.mem_of_mem_take hm)).2.2.2.2
     rw [List.length_take] at htl
     generalize b.L[i] = m at *
     generalize q[i].2 = mv at *
     obtain ⟨Bm,dm,rfl,hrm,hom,hdm⟩:=hbq
     obtain ⟨A6,c6,f4,ho6,hA6⟩:=id hB6
     obtain ⟨X,hX⟩:∃ X,X = pre ++ (b.L.take i).flatMap encM:=⟨_,rfl⟩
     have hXl:X.length ≤ 60000:=by rw [hX,List.length_append]; omega
     rw [← hX] at f4 ho6
     have hml:=encM_len hmI.2.2.2.2
     obtain ⟨y3,hy3⟩:∃ y3,y3 = [m.uid,m.flags,m.date]:=⟨_,rfl⟩
     have hy3l:y3.length = 3:=by rw [hy3]; rfl
     have hy3w:∀ v ∈ y3,-9223372036854775808 ≤ v ∧ v ≤ 9223372036854775807:=by
      have h1:=hmI.2.2.1
      have h2:=hmI.2.2.2.1
      have h3:=hI.next
      simp only [okF,Bool.and_eq_true,decide_eq_true_eq] at h1 h2
      rw [hy3]
      intro v hv
      simp at hv
      rcases hv with rfl | rfl | rfl <;> omega
     have hy3m:#[i64 m.uid,i64 m.flags,i64 m.date].toList = y3.map i64:=by rw [hy3]; rfl
     have ey:encM m = numsB y3 ++ rowB m.body:=by rw [hy3]; rfl
     have hyl:=congrArg List.length ey
     rw [List.length_append] at hyl
     simp -dsimp [go_sem,f5,c3,hlt,e0,e1,e2,e3]
     have kc:Nw w6 (w6.alloc (.cells #[i64 m.uid,i64 m.flags,i64 m.date,.slice Bm m.body.length dm] 186)):=(Kp.refl _ _).alloc _
     have hzb:Blk (w6.alloc (.cells #[i64 m.uid,i64 m.flags,i64 m.date,.slice Bm m.body.length dm] 186)) w6.heap.size 186 #[i64 m.uid,i64 m.flags,i64 m.date,.slice Bm m.body.length dm]:=Blk.new _ _ _
     obtain ⟨z,hzw⟩:∃ z,z = w6.heap.size:=⟨_,rfl⟩
     rw [← hzw] at hzb ⊢
     have hzA:¬ blk A6 z:=fun h => by
      obtain ⟨a,rfl,e⟩:=blk_of h
      have:=ho6.lt a rfl
      omega
     have hA6b:∀ k,blk A6 k → w1.heap.size ≤ k:=fun k hk => by
      obtain ⟨a,rfl,rfl⟩:=blk_of hk
      exact hA6 a rfl
     have ho7:=ho6.nw kc
     have k17:=k16.nw kc
     generalize w6.alloc (.cells #[i64 m.uid,i64 m.flags,i64 m.date,.slice Bm m.body.length dm] 186) = w7 at *
     have z0:w7.cell? ⟨z,0,none⟩ = some (i64 m.uid):=hzb.cell 0
     have z1:w7.cell? ⟨z,1,none⟩ = some (i64 m.flags):=hzb.cell 1
     have z2:w7.cell? ⟨z,2,none⟩ = some (i64 m.date):=hzb.cell 2
     have z3':w7.cell? ⟨z,3,none⟩ = some (.slice Bm m.body.length dm):=hzb.cell 3
     have kD:Kp (blk A6) w7 w7.drew:=(Kp.refl _ _).drew
     have d0:=kD.cell_some z0 hzA
     have d1:=kD.cell_some z1 hzA
     have d2:=kD.cell_some z2 hzA
     have d3:=kD.cell_some z3' hzA
     refine draw (.take 0 (.take 1 (.take 2 (.take 3 (.take 4 (.take 5 (.take 6 (.take 10 (.take 11 (.alt 7 (.alt 8 (.alt 9 (.alt 12 (.alt 13 (.take 14 .done) .stop) .stop) .stop) .stop) .stop)))))))))) (by kernel_rfl) (fun wz => Kp (blk A6) w7 wz) kD ?_
     simp -dsimp [go_sem,f4,d0,d1,d2,d3]
     repeat refine ⟨fun wz hz => by simp [hz.cell_some z0 hzA,hz.cell_some z1 hzA,hz.cell_some z2 hzA,hz.cell_some z3' hzA],?_⟩
     have n7:Nw w7 (w7.alloc (.cells #[i64 m.uid,i64 m.flags,i64 m.date] 3)).drew:=((Kp.refl _ _).alloc _).drew
     have hry:Rd (w7.alloc (.cells #[i64 m.uid,i64 m.flags,i64 m.date] 3)).drew (some ⟨w7.heap.size,0,none⟩) (y3.map i64):=(Rd.fresh rfl hy3m).nw ((Kp.refl _ _).drew)
     refine ⟨Nw.kp n7 _,?_⟩
     have nums3y:=refNums_spec y3 (some ⟨w7.heap.size,0,none⟩) 3 _ hry hy3w (by omega)
     rw [hy3l] at nums3y
     refine call nums3y ?_
     rintro vb w8 ⟨hBb,hk8⟩
     have n78:=n7.nw hk8
     refine ⟨Nw.kp n78 _,?_⟩
     obtain ⟨A8,c8,rfl,ho8,hA8⟩:=hBb
     simp -dsimp [go_sem]
     refine app Tryz.Su8 (ho7.nw n78) ho8.rd (by simp) (one_u8 _) (by omega) (by omega) ?_
     intro A9 c9 w9 ho9 hk9 hAA
     have k79:Kp (blk A6) w7 w9:=(Nw.kp n78 _).trans hk9 fun _ _ h => h
     have n19:Nw w1 w9:=Nw.fr k17 (k79.mono fun i _ hi => hA6b i hi) (Nat.le_refl _)
     have hs18:=(k17.nw n78).size
     have hA9:∀ a,A9 = some a → w1.heap.size ≤ a.block:=by
      rcases hAA with rfl | ⟨rfl,_⟩
      ·exact hA6
      ·rintro a ha; cases ha; exact hs18
     have hA97:∀ k,k < w7.heap.size → blk A9 k → blk A6 k:=fun k hk h => by
      rcases hAA with rfl | ⟨rfl,_⟩
      ·exact h
      ·have e:k = w8.heap.size:=h
       have:=n78.size
       omega
     refine ⟨k79,?_⟩
     obtain ⟨n9,hn9⟩:∃ n9,n9 = X.length + (numsB y3).length:=⟨_,rfl⟩
     rw [← hn9] at ho9 ⊢
     rw [← List.map_append] at ho9
     simp -dsimp [go_sem]
     refine call (refBytes_spec m.body Bm dm w9 ((hrm.nw n1).nw n19) (by omega)) ?_
     rintro vb2 w10 ⟨hBb2,hk10⟩
     have k710:Kp (blk A6) w7 w10:=k79.trans hk10 fun _ _ h => h.elim
     refine ⟨k710,?_⟩
     obtain ⟨A11,c11,rfl,ho11,hA11⟩:=hBb2
     simp -dsimp [go_sem]
     refine app Tryz.Su8 (ho9.nw hk10) ho11.rd (by simp) (one_u8 _) (by omega) (by omega) ?_
     intro A12 c12 w12 ho12 hk12 hAA2
     have k712:Kp (blk A6) w7 w12:=k710.trans hk12 fun k hk h => hA97 k hk h
     have n112:Nw w1 w12:=Nw.fr k17 (k712.mono fun i _ hi => hA6b i hi) (Nat.le_refl _)
     have hA12:∀ a,A12 = some a → w1.heap.size ≤ a.block:=by
      rcases hAA2 with rfl | ⟨rfl,_⟩
      ·exact hA9
      ·rintro a ha; cases ha; exact (n19.nw hk10).size
     refine ⟨k712,?_⟩
     have hfin:pre ++ (b.L.take i1).flatMap encM = X ++ numsB y3 ++ rowB m.body:=by rw [htk,ey,hX]; simp
     obtain ⟨n12,hn12⟩:∃ n12,n12 = n9 + (rowB m.body).length:=⟨_,rfl⟩
     have hn12':n12 = (X ++ numsB y3 ++ rowB m.body).length:=by rw [hn12,hn9,List.length_append,List.length_append]
     rw [← hn12] at ho12 ⊢
     rw [← List.map_append] at ho12
     simp -dsimp [go_sem,f5,hi1]
     refine ⟨⟨i1,rfl,by omega,?_,n112⟩,by simp [intOf]; omega⟩
     rw [hfin]
     exact ⟨A12,c12,by rw [hn12'],by rw [← hn12']; exact ho12,hA12⟩
    ·obtain rfl:i = b.L.length:=by omega
     simp -dsimp [go_sem,f5,c3]
     rw [List.take_length] at hB6
     refine ⟨.inl ⟨his,_,rfl,?_⟩,n1.nw k16⟩
     rw [hpre,hnl,hz3] at hB6
     exact hB6.mono (by rw [hx']; exact n1.size)
   ·have ka:Nw w2 (w2.alloc (.cells #[i64 b.val,i64 b.next,i64 (b.L.length:Int)] 3)):=(Kp.refl _ _).alloc _
    have hrz0:Rd (w2.alloc (.cells #[i64 b.val,i64 b.next,i64 (b.L.length:Int)] 3)) (some ⟨w2.heap.size,0,none⟩) (z3.map i64):=Rd.fresh rfl hz3m
    refine ⟨k12.nw ka,?_⟩
    refine call (refBytes_spec nl A1 d1 _ (hr2.nw ka) (by omega)) ?_
    rintro va w3 ⟨hBz,hk3⟩
    have hrz:=hrz0.nw hk3
    have kz:=(k12.nw ka).nw hk3
    have hB1:=(k12.nw ka).size
    have hle:=hk3.size
    refine ⟨kz,?_⟩
    simp -dsimp [go_sem]
    refine call (nums3 _ _ hrz) ?_
    rintro vb w4 ⟨hBb,hk4⟩
    have k14:=kz.nw hk4
    refine ⟨k14,?_⟩
    obtain ⟨A4,c4,rfl,ho4,hA4⟩:=hBb
    simp -dsimp [go_sem]
    refine bs_app (hBz.nw hk4) ho4.rd (by omega) (Nat.le_trans hle hk4.size) ?_
    intro v5 w5 hB5 hk5
    have k15:Nw w1 w5:=Nw.fr k14 hk5 hB1
    refine ⟨k15,?_⟩
    have hB5':=hB5.mono hB1
    obtain ⟨pre,hpre⟩:∃ pre,pre = rowB nl ++ numsB z3:=⟨_,rfl⟩
    have hprel:pre.length ≤ 60:=by rw [hpre,List.length_append]; omega
    rw [← hpre] at hB5'
    clear hB5 hk5 hBz
    simp -dsimp [go_sem]
    refine loop [4,5,6,24,25,26,27,28,29,30,31,32,33,34,35,36,37,38,39,40,41,42,43,44,45,46,47,48,49] (by kernel_rfl)
     (fun f w' => Box2 (fun a t w' => ∃ i:Nat,a = i64 i ∧ i ≤ b.L.length ∧ Bs w' t (pre ++ (b.L.take i).flatMap encM) w1.heap.size ∧ Nw w1 w') (f 5) (f 4) w') (fun f _ => b.L.length - (intOf (f 5)).toNat) ⟨0,rfl,by omega,by simpa [upd] using hB5',k15⟩ ?_
    rintro f w6 ⟨i,f5,hi,hB6,k16⟩
    have c3:w6.cell? ⟨x,3,none⟩ = some (.slice A b.L.length c):=(hb1.nw k16).cell 3
    by_cases hlt:i < b.L.length
    ·have hi1:IntKind.i64.wrap ((i:Int) + 1) = ((i + 1:Nat):Int):=by rw [w64 (by omega) (by omega)]; omega
     obtain ⟨i1,hi1'⟩:∃ i1,i1 = i + 1:=⟨_,rfl⟩
     rw [← hi1'] at hi1
     have hltq:i < q.length:=by omega
     obtain ⟨g,o,rfl,e0,e1,e2,e3⟩:=msg_at ((hr.nw n1).nw k16) hltq
     have hqi:q[i].1 = b.L[i]:=by simp only [← hq,List.getElem_map]
     have hbq:=hb _ (List.getElem_mem hltq)
     rw [hqi] at e0 e1 e2 hbq
     have hmI:=hI.all _ (List.getElem_mem hlt)
     have htk:(b.L.take i1).flatMap encM = (b.L.take i).flatMap encM ++ encM b.L[i]:=by rw [hi1',List.take_succ_eq_append_getElem hlt,List.flatMap_append]; simp
     have htl:=encMs_len (b.L.take i) fun m hm => (hI.all m (List.mem_of_mem_take hm)).2.2.2.2
     rw [List.length_take] at htl
     generalize b.L[i] = m at *
     generalize q[i].2 = mv at *
     obtain ⟨Bm,dm,rfl,hrm,hom,hdm⟩:=hbq
     obtain ⟨A6,c6,f4,ho6,hA6⟩:=id hB6
     obtain ⟨X,hX⟩:∃ X,X = pre ++ (b.L.take i).flatMap encM:=⟨_,rfl⟩
     have hXl:X.length ≤ 60000:=by rw [hX,List.length_append]; omega
     rw [← hX] at f4 ho6
     have hml:=encM_len hmI.2.2.2.2
     obtain ⟨y3,hy3⟩:∃ y3,y3 = [m.uid,m.flags,m.date]:=⟨_,rfl⟩
     have hy3l:y3.length = 3:=by rw [hy3]; rfl
     have hy3w:∀ v ∈ y3,-9223372036854775808 ≤ v ∧ v ≤ 9223372036854775807:=by
      have h1:=hmI.2.2.1
      have h2:=hmI.2.2.2.1
      have h3:=hI.next
      simp only [okF,Bool.and_eq_true,decide_eq_true_eq] at h1 h2
      rw [hy3]
      intro v hv
      simp at hv
      rcases hv with rfl | rfl | rfl <;> omega
     have hy3m:#[i64 m.uid,i64 m.flags,i64 m.date].toList = y3.map i64:=by rw [hy3]; rfl
     have ey:encM m = numsB y3 ++ rowB m.body:=by rw [hy3]; rfl
     have hyl:=congrArg List.length ey
     rw [List.length_append] at hyl
     simp -dsimp [go_sem,f5,c3,hlt,e0,e1,e2,e3]
     have kc:Nw w6 (w6.alloc (.cells #[i64 m.uid,i64 m.flags,i64 m.date,.slice Bm m.body.length dm] 186)):=(Kp.refl _ _).alloc _
     have hzb:Blk (w6.alloc (.cells #[i64 m.uid,i64 m.flags,i64 m.date,.slice Bm m.body.length dm] 186)) w6.heap.size 186 #[i64 m.uid,i64 m.flags,i64 m.date,.slice Bm m.body.length dm]:=Blk.new _ _ _
     obtain ⟨z,hzw⟩:∃ z,z = w6.heap.size:=⟨_,rfl⟩
     rw [← hzw] at hzb ⊢
     have hzA:¬ blk A6 z:=fun h => by
      obtain ⟨a,rfl,e⟩:=blk_of h
      have:=ho6.lt a rfl
      omega
     have hA6b:∀ k,blk A6 k → w1.heap.size ≤ k:=fun k hk => by
      obtain ⟨a,rfl,rfl⟩:=blk_of hk
      exact hA6 a rfl
     have ho7:=ho6.nw kc
     have k17:=k16.nw kc
     generalize w6.alloc (.cells #[i64 m.uid,i64 m.flags,i64 m.date,.slice Bm m.body.length dm] 186) = w7 at *
     have z0:w7.cell? ⟨z,0,none⟩ = some (i64 m.uid):=hzb.cell 0
     have z1:w7.cell? ⟨z,1,none⟩ = some (i64 m.flags):=hzb.cell 1
     have z2:w7.cell? ⟨z,2,none⟩ = some (i64 m.date):=hzb.cell 2
     have z3':w7.cell? ⟨z,3,none⟩ = some (.slice Bm m.body.length dm):=hzb.cell 3
     have kD:Kp (blk A6) w7 w7.drew:=(Kp.refl _ _).drew
     have d0:=kD.cell_some z0 hzA
     have d1:=kD.cell_some z1 hzA
     have d2:=kD.cell_some z2 hzA
     have d3:=kD.cell_some z3' hzA
     refine draw (.take 0 (.take 1 (.take 2 (.take 3 (.take 4 (.take 5 (.take 6 (.take 10 (.take 11 (.alt 7 (.alt 8 (.alt 9 (.alt 12 (.alt 13 (.take 14 .done) .stop) .stop) .stop) .stop) .stop)))))))))) (by kernel_rfl) (fun wz => Kp (blk A6) w7 wz) kD ?_
     simp -dsimp [go_sem,f4,d0,d1,d2,d3]
     repeat refine ⟨fun wz hz => by simp [hz.cell_some z0 hzA,hz.cell_some z1 hzA,hz.cell_some z2 hzA,hz.cell_some z3' hzA],?_⟩
     have n7:Nw w7 (w7.alloc (.cells #[i64 m.uid,i64 m.flags,i64 m.date] 3)).drew:=((Kp.refl _ _).alloc _).drew
     have hry:Rd (w7.alloc (.cells #[i64 m.uid,i64 m.flags,i64 m.date] 3)).drew (some ⟨w7.heap.size,0,none⟩) (y3.map i64):=(Rd.fresh rfl hy3m).nw ((Kp.refl _ _).drew)
     refine ⟨Nw.kp n7 _,?_⟩
     have nums3y:=refNums_spec y3 (some ⟨w7.heap.size,0,none⟩) 3 _ hry hy3w (by omega)
     rw [hy3l] at nums3y
     refine call nums3y ?_
     rintro vb w8 ⟨hBb,hk8⟩
     have n78:=n7.nw hk8
     refine ⟨Nw.kp n78 _,?_⟩
     obtain ⟨A8,c8,rfl,ho8,hA8⟩:=hBb
     simp -dsimp [go_sem]
     refine app Tryz.Su8 (ho7.nw n78) ho8.rd (by simp) (one_u8 _) (by omega) (by omega) ?_
     intro A9 c9 w9 ho9 hk9 hAA
     have k79:Kp (blk A6) w7 w9:=(Nw.kp n78 _).trans hk9 fun _ _ h => h
     have n19:Nw w1 w9:=Nw.fr k17 (k79.mono fun i _ hi => hA6b i hi) (Nat.le_refl _)
     have hs18:=(k17.nw n78).size
     have hA9:∀ a,A9 = some a → w1.heap.size ≤ a.block:=by
      rcases hAA with rfl | ⟨rfl,_⟩
      ·exact hA6
      ·rintro a ha; cases ha; exact hs18
     have hA97:∀ k,k < w7.heap.size → blk A9 k → blk A6 k:=fun k hk h => by
      rcases hAA with rfl | ⟨rfl,_⟩
      ·exact h
      ·have e:k = w8.heap.size:=h
       have:=n78.size
       omega
     refine ⟨k79,?_⟩
     obtain ⟨n9,hn9⟩:∃ n9,n9 = X.length + (numsB y3).length:=⟨_,rfl⟩
     rw [← hn9] at ho9 ⊢
     rw [← List.map_append] at ho9
     simp -dsimp [go_sem]
     refine call (refBytes_spec m.body Bm dm w9 ((hrm.nw n1).nw n19) (by omega)) ?_
     rintro vb2 w10 ⟨hBb2,hk10⟩
     have k710:Kp (blk A6) w7 w10:=k79.trans hk10 fun _ _ h => h.elim
     refine ⟨k710,?_⟩
     obtain ⟨A11,c11,rfl,ho11,hA11⟩:=hBb2
     simp -dsimp [go_sem]
     refine app Tryz.Su8 (ho9.nw hk10) ho11.rd (by simp) (one_u8 _) (by omega) (by omega) ?_
     intro A12 c12 w12 ho12 hk12 hAA2
     have k712:Kp (blk A6) w7 w12:=k710.trans hk12 fun k hk h => hA97 k hk h
     have n112:Nw w1 w12:=Nw.fr k17 (k712.mono fun i _ hi => hA6b i hi) (Nat.le_refl _)
     have hA12:∀ a,A12 = some a → w1.heap.size ≤ a.block:=by
      rcases hAA2 with rfl | ⟨rfl,_⟩
      ·exact hA9
      ·rintro a ha; cases ha; exact (n19.nw hk10).size
     refine ⟨k712,?_⟩
     have hfin:pre ++ (b.L.take i1).flatMap encM = X ++ numsB y3 ++ rowB m.body:=by rw [htk,ey,hX]; simp
     obtain ⟨n12,hn12⟩:∃ n12,n12 = n9 + (rowB m.body).length:=⟨_,rfl⟩
     have hn12':n12 = (X ++ numsB y3 ++ rowB m.body).length:=by rw [hn12,hn9,List.length_append,List.length_append]
     rw [← hn12] at ho12 ⊢
     rw [← List.map_append] at ho12
     simp -dsimp [go_sem,f5,hi1]
     refine ⟨⟨i1,rfl,by omega,?_,n112⟩,by simp [intOf]; omega⟩
     rw [hfin]
     exact ⟨A12,c12,by rw [hn12'],by rw [← hn12']; exact ho12,hA12⟩
    ·obtain rfl:i = b.L.length:=by omega
     simp -dsimp [go_sem,f5,c3]
     rw [List.take_length] at hB6
     refine ⟨.inl ⟨his,_,rfl,?_⟩,n1.nw k16⟩
     rw [hpre,hnl,hz3] at hB6
     exact hB6.mono (by rw [hx']; exact n1.size)
  ·have ka:Nw w1 (w1.alloc (.cells #[i64 b.val,i64 b.next,i64 (b.L.length:Int)] 3)).drew:=((Kp.refl _ _).alloc _).drew
   have hrz0:Rd (w1.alloc (.cells #[i64 b.val,i64 b.next,i64 (b.L.length:Int)] 3)).drew (some ⟨w1.heap.size,0,none⟩) (z3.map i64):=(Rd.fresh rfl hz3m).nw ((Kp.refl _ _).drew)
   refine ⟨ka,?_⟩
   obtain ⟨A1,d1,w2,ecv,k2,hr2⟩:=cvt (w1.alloc (.cells #[i64 b.val,i64 b.next,i64 (b.L.length:Int)] 3)).drew
   have k12:=ka.nw k2
   rw [ecv]
   simp -dsimp [go_sem]
   refine ⟨k12,?_⟩
   refine call (refBytes_spec nl A1 d1 _ hr2 (by omega)) ?_
   rintro va w3 ⟨hBz,hk3⟩
   have hrz:=(hrz0.nw k2).nw hk3
   have kz:=k12.nw hk3
   have hB1:=k12.size
   have hle:=hk3.size
   refine ⟨kz,?_⟩
   simp -dsimp [go_sem]
   refine call (nums3 _ _ hrz) ?_
   rintro vb w4 ⟨hBb,hk4⟩
   have k14:=kz.nw hk4
   refine ⟨k14,?_⟩
   obtain ⟨A4,c4,rfl,ho4,hA4⟩:=hBb
   simp -dsimp [go_sem]
   refine bs_app (hBz.nw hk4) ho4.rd (by omega) (Nat.le_trans hle hk4.size) ?_
   intro v5 w5 hB5 hk5
   have k15:Nw w1 w5:=Nw.fr k14 hk5 hB1
   refine ⟨k15,?_⟩
   have hB5':=hB5.mono hB1
   obtain ⟨pre,hpre⟩:∃ pre,pre = rowB nl ++ numsB z3:=⟨_,rfl⟩
   have hprel:pre.length ≤ 60:=by rw [hpre,List.length_append]; omega
   rw [← hpre] at hB5'
   clear hB5 hk5 hBz
   simp -dsimp [go_sem]
   refine loop [4,5,6,24,25,26,27,28,29,30,31,32,33,34,35,36,37,38,39,40,41,42,43,44,45,46,47,48,49] (by kernel_rfl)
    (fun f w' => Box2 (fun a t w' => ∃ i:Nat,a = i64 i ∧ i ≤ b.L.length ∧ Bs w' t (pre ++ (b.L.take i).flatMap encM) w1.heap.size ∧ Nw w1 w') (f 5) (f 4) w') (fun f _ => b.L.length - (intOf (f 5)).toNat) ⟨0,rfl,by omega,by simpa [upd] using hB5',k15⟩ ?_
   rintro f w6 ⟨i,f5,hi,hB6,k16⟩
   have c3:w6.cell? ⟨x,3,none⟩ = some (.slice A b.L.length c):=(hb1.nw k16).cell 3
   by_cases hlt:i < b.L.length
   ·have hi1:IntKind.i64.wrap ((i:Int) + 1) = ((i + 1:Nat):Int):=by rw [w64 (by omega) (by omega)]; omega
    obtain ⟨i1,hi1'⟩:∃ i1,i1 = i + 1:=⟨_,rfl⟩
    rw [← hi1'] at hi1
    have hltq:i < q.length:=by omega
    obtain ⟨g,o,rfl,e0,e1,e2,e3⟩:=msg_at ((hr.nw n1).nw k16) hltq
    have hqi:q[i].1 = b.L[i]:=by simp only [← hq,List.getElem_map]
    have hbq:=hb _ (List.getElem_mem hltq)
    rw [hqi] at e0 e1 e2 hbq
    have hmI:=hI.all _ (List.getElem_mem hlt)
    have htk:(b.L.take i1).flatMap encM = (b.L.take i).flatMap encM ++ encM b.L[i]:=by rw [hi1',List.take_succ_eq_append_getElem hlt,List.flatMap_append]; simp
    have htl:=encMs_len (b.L.take i) fun m hm => (hI.all m (List.mem_of_mem_take hm)).2.2.2.2
    rw [List.length_take] at htl
    generalize b.L[i] = m at *
    generalize q[i].2 = mv at *
    obtain ⟨Bm,dm,rfl,hrm,hom,hdm⟩:=hbq
    obtain ⟨A6,c6,f4,ho6,hA6⟩:=id hB6
    obtain ⟨X,hX⟩:∃ X,X = pre ++ (b.L.take i).flatMap encM:=⟨_,rfl⟩
    have hXl:X.length ≤ 60000:=by rw [hX,List.length_append]; omega
    rw [← hX] at f4 ho6
    have hml:=encM_len hmI.2.2.2.2
    obtain ⟨y3,hy3⟩:∃ y3,y3 = [m.uid,m.flags,m.date]:=⟨_,rfl⟩
    have hy3l:y3.length = 3:=by rw [hy3]; rfl
    have hy3w:∀ v ∈ y3,-9223372036854775808 ≤ v ∧ v ≤ 9223372036854775807:=by
     have h1:=hmI.2.2.1
     have h2:=hmI.2.2.2.1
     have h3:=hI.next
     simp only [okF,Bool.and_eq_true,decide_eq_true_eq] at h1 h2
     rw [hy3]
     intro v hv
     simp at hv
     rcases hv with rfl | rfl | rfl <;> omega
    have hy3m:#[i64 m.uid,i64 m.flags,i64 m.date].toList = y3.map i64:=by rw [hy3]; rfl
    have ey:encM m = numsB y3 ++ rowB m.body:=by rw [hy3]; rfl
    have hyl:=congrArg List.length ey
    rw [List.length_append] at hyl
    simp -dsimp [go_sem,f5,c3,hlt,e0,e1,e2,e3]
    have kc:Nw w6 (w6.alloc (.cells #[i64 m.uid,i64 m.flags,i64 m.date,.slice Bm m.body.length dm] 186)):=(Kp.refl _ _).alloc _
    have hzb:Blk (w6.alloc (.cells #[i64 m.uid,i64 m.flags,i64 m.date,.slice Bm m.body.length dm] 186)) w6.heap.size 186 #[i64 m.uid,i64 m.flags,i64 m.date,.slice Bm m.body.length dm]:=Blk.new _ _ _
    obtain ⟨z,hzw⟩:∃ z,z = w6.heap.size:=⟨_,rfl⟩
    rw [← hzw] at hzb ⊢
    have hzA:¬ blk A6 z:=fun h => by
     obtain ⟨a,rfl,e⟩:=blk_of h
     have:=ho6.lt a rfl
     omega
    have hA6b:∀ k,blk A6 k → w1.heap.size ≤ k:=fun k hk => by
     obtain ⟨a,rfl,rfl⟩:=blk_of hk
     exact hA6 a rfl
    have ho7:=ho6.nw kc
    have k17:=k16.nw kc
    generalize w6.alloc (.cells #[i64 m.uid,i64 m.flags,i64 m.date,.slice Bm m.body.length dm] 186) = w7 at *
    have z0:w7.cell? ⟨z,0,none⟩ = some (i64 m.uid):=hzb.cell 0
    have z1:w7.cell? ⟨z,1,none⟩ = some (i64 m.flags):=hzb.cell 1
    have z2:w7.cell? ⟨z,2,none⟩ = some (i64 m.date):=hzb.cell 2
    have z3':w7.cell? ⟨z,3,none⟩ = some (.slice Bm m.body.length dm):=hzb.cell 3
    have kD:Kp (blk A6) w7 w7.drew:=(Kp.refl _ _).drew
    have d0:=kD.cell_some z0 hzA
    have d1:=kD.cell_some z1 hzA
    have d2:=kD.cell_some z2 hzA
    have d3:=kD.cell_some z3' hzA
    refine draw (.take 0 (.take 1 (.take 2 (.take 3 (.take 4 (.take 5 (.take 6 (.take 10 (.take 11 (.alt 7 (.alt 8 (.alt 9 (.alt 12 (.alt 13 (.take 14 .done) .stop) .stop) .stop) .stop) .stop)))))))))) (by kernel_rfl) (fun wz => Kp (blk A6) w7 wz) kD ?_
    simp -dsimp [go_sem,f4,d0,d1,d2,d3]
    repeat refine ⟨fun wz hz => by simp [hz.cell_some z0 hzA,hz.cell_some z1 hzA,hz.cell_some z2 hzA,hz.cell_some z3' hzA],?_⟩
    have n7:Nw w7 (w7.alloc (.cells #[i64 m.uid,i64 m.flags,i64 m.date] 3)).drew:=((Kp.refl _ _).alloc _).drew
    have hry:Rd (w7.alloc (.cells #[i64 m.uid,i64 m.flags,i64 m.date] 3)).drew (some ⟨w7.heap.size,0,none⟩) (y3.map i64):=(Rd.fresh rfl hy3m).nw ((Kp.refl _ _).drew)
    refine ⟨Nw.kp n7 _,?_⟩
    have nums3y:=refNums_spec y3 (some ⟨w7.heap.size,0,none⟩) 3 _ hry hy3w (by omega)
    rw [hy3l] at nums3y
    refine call nums3y ?_
    rintro vb w8 ⟨hBb,hk8⟩
    have n78:=n7.nw hk8
    refine ⟨Nw.kp n78 _,?_⟩
    obtain ⟨A8,c8,rfl,ho8,hA8⟩:=hBb
    simp -dsimp [go_sem]
    refine app Tryz.Su8 (ho7.nw n78) ho8.rd (by simp) (one_u8 _) (by omega) (by omega) ?_
    intro A9 c9 w9 ho9 hk9 hAA
    have k79:Kp (blk A6) w7 w9:=(Nw.kp n78 _).trans hk9 fun _ _ h => h
    have n19:Nw w1 w9:=Nw.fr k17 (k79.mono fun i _ hi => hA6b i hi) (Nat.le_refl _)
    have hs18:=(k17.nw n78).size
    have hA9:∀ a,A9 = some a → w1.heap.size ≤ a.block:=by
     rcases hAA with rfl | ⟨rfl,_⟩
     ·exact hA6
     ·rintro a ha; cases ha; exact hs18
    have hA97:∀ k,k < w7.heap.size → blk A9 k → blk A6 k:=fun k hk h => by
     rcases hAA with rfl | ⟨rfl,_⟩
     ·exact h
     ·have e:k = w8.heap.size:=h
      have:=n78.size
      omega
    refine ⟨k79,?_⟩
    obtain ⟨n9,hn9⟩:∃ n9,n9 = X.length + (numsB y3).length:=⟨_,rfl⟩
    rw [← hn9] at ho9 ⊢
    rw [← List.map_append] at ho9
    simp -dsimp [go_sem]
    refine call (refBytes_spec m.body Bm dm w9 ((hrm.nw n1).nw n19) (by omega)) ?_
    rintro vb2 w10 ⟨hBb2,hk10⟩
    have k710:Kp (blk A6) w7 w10:=k79.trans hk10 fun _ _ h => h.elim
    refine ⟨k710,?_⟩
    obtain ⟨A11,c11,rfl,ho11,hA11⟩:=hBb2
    simp -dsimp [go_sem]
    refine app Tryz.Su8 (ho9.nw hk10) ho11.rd (by simp) (one_u8 _) (by omega) (by omega) ?_
    intro A12 c12 w12 ho12 hk12 hAA2
    have k712:Kp (blk A6) w7 w12:=k710.trans hk12 fun k hk h => hA97 k hk h
    have n112:Nw w1 w12:=Nw.fr k17 (k712.mono fun i _ hi => hA6b i hi) (Nat.le_refl _)
    have hA12:∀ a,A12 = some a → w1.heap.size ≤ a.block:=by
     rcases hAA2 with rfl | ⟨rfl,_⟩
     ·exact hA9
     ·rintro a ha; cases ha; exact (n19.nw hk10).size
    refine ⟨k712,?_⟩
    have hfin:pre ++ (b.L.take i1).flatMap encM = X ++ numsB y3 ++ rowB m.body:=by rw [htk,ey,hX]; simp
    obtain ⟨n12,hn12⟩:∃ n12,n12 = n9 + (rowB m.body).length:=⟨_,rfl⟩
    have hn12':n12 = (X ++ numsB y3 ++ rowB m.body).length:=by rw [hn12,hn9,List.length_append,List.length_append]
    rw [← hn12] at ho12 ⊢
    rw [← List.map_append] at ho12
    simp -dsimp [go_sem,f5,hi1]
    refine ⟨⟨i1,rfl,by omega,?_,n112⟩,by simp [intOf]; omega⟩
    rw [hfin]
    exact ⟨A12,c12,by rw [hn12'],by rw [← hn12']; exact ho12,hA12⟩
   ·obtain rfl:i = b.L.length:=by omega
    simp -dsimp [go_sem,f5,c3]
    rw [List.take_length] at hB6
    refine ⟨.inl ⟨his,_,rfl,?_⟩,n1.nw k16⟩
    rw [hpre,hnl,hz3] at hB6
    exact hB6.mono (by rw [hx']; exact n1.size)
set_option maxHeartbeats 1000000
theorem bytes_eqq (p q:List UInt8):((⟨p.toArray⟩:ByteArray) == ⟨q.toArray⟩) = decide (p = q):=by
 rw [Bool.eq_iff_iff,MapKept.bytes_beq,decide_eq_true_iff]
 constructor
 ·intro h
  injection h with h
  exact List.toArray_inj h
 ·rintro rfl; rfl
theorem dw_all (p:UInt8 → Bool):∀ l:List UInt8,(∀ x ∈ l.dropWhile p,p x = true) → ∀ x ∈ l,p x = true
 | [],_,x,hx => by cases hx
 | a :: t,h,x,hx => by
  by_cases ha:p a = true
  ·rw [List.dropWhile_cons_of_pos ha] at h
   rcases List.mem_cons.1 hx with rfl | hx
   ·exact ha
   ·exact dw_all p t h x hx
  ·rw [List.dropWhile_cons_of_neg ha] at h
   exact h x hx
theorem dw_nil (p:UInt8 → Bool):∀ l:List UInt8,l.dropWhile p = [] → ∀ x ∈ l,p x = true:=fun l h => dw_all p l fun x hx => by rw [h] at hx; cases hx
theorem dw_of (p:UInt8 → Bool):∀ l:List UInt8,(∀ x ∈ l,p x = true) → l.dropWhile p = []
 | [],_ => rfl
 | a :: t,h => by rw [List.dropWhile_cons_of_pos (h a (List.mem_cons_self ..))]; exact dw_of p t fun x hx => h x (List.mem_cons_of_mem _ hx)
theorem trim_nil (l cs:List UInt8):Lib.trimS l cs = [] ↔ l.all (cs.contains ·) = true:=by
 unfold Lib.trimS Lib.trimLeftS Lib.trimRightS
 rw [List.all_eq_true]
 constructor
 ·intro h x hx
  have h1:=dw_nil _ _ h
  have h2:=dw_all (cs.contains ·) l.reverse fun x hx => h1 x (List.mem_reverse.2 hx)
  exact h2 x (List.mem_reverse.2 hx)
 ·intro h
  have h1:=dw_of (cs.contains ·) l.reverse fun x hx => h x (List.mem_reverse.1 hx)
  rw [h1]
  rfl
def signs:List UInt8:=[97,98,99,100,101,102,103,104,105,106,107,108,109,110,111,112,113,114,115,116,117,118,119,120,121,122,48,49,50,51,52,53,54,55,56,57]
theorem signs_ok (c:UInt8):signs.contains c = okC1 c:=by
 have h:((List.range 256).all fun n => signs.contains (UInt8.ofNat n) == okC1 (UInt8.ofNat n)) = true:=by decide +kernel
 have h2:=List.all_eq_true.1 h c.toNat (List.mem_range.2 c.toNat_lt)
 rw [UInt8.ofNat_toNat] at h2
 simpa using h2
theorem trim_spec (s:ByteArray) (w:World) (hl:s.size ≤ 9223372036854775807) :
  Cal Tryz.prog 138 #[.string s,.string ⟨#[97,98,99,100,101,102,103,104,105,106,107,108,109,110,111,112,113,114,115,116,117,118,119,120,121,122,48,49,50,51,52,53,54,55,56,57]⟩] w fun v w' => v = .string ⟨(Lib.trimS s.data.toList signs).toArray⟩ ∧ Nw w w':=by
 have h:=Go.Proofs.Any.strings_Trim_laid Tryz.trim138 (by kernel_rfl) s ⟨#[97,98,99,100,101,102,103,104,105,106,107,108,109,110,111,112,113,114,115,116,117,118,119,120,121,122,48,49,50,51,52,53,54,55,56,57]⟩ w hl (by decide) (Go.Proofs.ascii_of_all (by decide))
 refine Calls.mono h ?_
 rintro e w' ⟨rfl,b1,b2,b3,b4,b5⟩
 exact ⟨_,rfl,rfl,⟨b1,b2,b3,b4,fun k hk _ => b5 k hk⟩⟩
theorem bname_spec (s:ByteArray) (w:World) (hl:s.size ≤ 9223372036854775807) :
  Cal Tryz.prog 75 #[.string s] w fun v w' => v = .bool (nameOk s) ∧ Nw w w':=by
 have htr:=trim_spec s w hl
 have hn:nameOk s = (decide (Lib.trimS s.data.toList signs = []) && decide (1 ≤ s.size) && decide (s.size ≤ 12)):=by
  unfold nameOk
  congr 2
  rw [Bool.eq_iff_iff,decide_eq_true_iff,trim_nil,show (fun c => signs.contains c) = okC1 from funext signs_ok]
 have hsz:s.size = s.data.toList.length:=by rw [Array.length_toList]; rfl
 obtain ⟨l,hl'⟩:∃ l,l = s.data.toList:=⟨_,rfl⟩
 have hs:s = ⟨l.toArray⟩:=by rw [hl']
 rw [← hl'] at hn hsz htr
 rw [hsz] at hn
 generalize hno:nameOk s = no at *
 rw [hs] at htr ⊢
 clear hs hl' hno
 refine enter Tryz.mixed Tryz.func75 rfl (by kernel_rfl) ?_
 by_cases h0:l.length = 0
 ·have hs:l = []:=List.eq_nil_of_length_eq_zero h0
  subst hs
  simp -dsimp [go_sem]
  exact ⟨by rw [hn]; simp,Kp.refl _ _⟩
 have hne:l.isEmpty = false:=by cases l <;> simp_all
 by_cases h12:l.length ≤ 12
 ·have h12':(l.length:Int) ≤ 12:=by omega
  have hn:no = decide (Lib.trimS l signs = []):=by rw [hn,decide_eq_true h12,decide_eq_true (show 1 ≤ l.length by omega)]; simp
  have hb:((⟨(Lib.trimS l signs).toArray⟩:ByteArray) == ⟨#[]⟩) = decide (Lib.trimS l signs = []):=bytes_eqq _ []
  simp -dsimp [go_sem,hne,h12,h12']
  refine call htr ?_
  rintro v w1 ⟨rfl,hk1⟩
  generalize Lib.trimS l signs = r at *
  simp -dsimp [go_sem]
  exact ⟨by rw [hn]; cases r <;> simp,hk1⟩
 ·have h12':¬ (l.length:Int) ≤ 12:=by omega
  have hn:no = false:=by rw [hn,decide_eq_false h12,Bool.and_false]
  simp -dsimp [go_sem,hne,h12,h12']
  exact ⟨hn,Kp.refl _ _⟩
end Go.Proofs.YtellahclbhfdiaaGreatDoor
