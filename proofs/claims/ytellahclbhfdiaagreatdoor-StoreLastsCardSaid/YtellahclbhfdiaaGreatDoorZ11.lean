/-
  box.Is walked. By the session itself. box.Encode walked. By the session itself. Bytes read as a box, in plain words; three numbers read at once. By the session itself.
-/
import Derived.Test.YtellahclbhfdiaaGreatDoorZ10
import Derived.Test.YtellahclbhfdiaaGreatDoorZ08
namespace Go.Proofs.YtellahclbhfdiaaGreatDoor
set_option linter.unusedSimpArgs false
set_option linter.unusedVariables false
set_option maxRecDepth 100000
set_option maxHeartbeats 1000000
open Go.Vc Go.RowKit
theorem bin_spec (n lo hi:Int) (w:World):Cal Tryz.prog 147 #[i64 n,i64 lo,i64 hi] w fun v w' => v = .bool (okF n lo hi) ∧ w' = w:=by
 refine enter Tryz.mixed Tryz.func147 rfl (by kernel_rfl) ?_
 by_cases h1:lo ≤ n
 ·simp -dsimp [go_sem,h1,okF]
 ·simp -dsimp [go_sem,h1,okF]
theorem bis_spec (v:Value) (b:Bx) (S:Nat → Prop) (w:World) (h:RB w v b S) (hn:b.name.size ≤ 9223372036854775807) (hll:b.L.length ≤ 9223372036854775807) :
  Cal Tryz.prog 203 #[v] w fun v' w' => v' = .bool (isB b) ∧ Nw w w':=by
 obtain ⟨A,c,q,rfl,hq,hc,hr,ho,hb⟩:=h
 have hql:q.length = b.L.length:=by rw [← hq,List.length_map]
 refine enter Tryz.mixed Tryz.func203 rfl (by kernel_rfl) ?_
 have k0:Nw w (w.alloc (.cells #[.string b.name,i64 b.val,i64 b.next,.slice A b.L.length c] 111)):=(Kp.refl _ _).alloc _
 have hb0:Blk (w.alloc (.cells #[.string b.name,i64 b.val,i64 b.next,.slice A b.L.length c] 111)) w.heap.size 111 #[.string b.name,i64 b.val,i64 b.next,.slice A b.L.length c]:=Blk.new _ _ _
 obtain ⟨x,hx⟩:∃ x,x = w.heap.size:=⟨_,rfl⟩
 simp -dsimp [go_sem]
 rw [← hx] at hb0 ⊢
 generalize w.alloc (.cells #[.string b.name,i64 b.val,i64 b.next,.slice A b.L.length c] 111) = wa at *
 refine loop [2,3,5,9,10,11,12,13,14,15,16,17,18,19,20,21,22,23,24,25,26,27,28,29,30,31,32,33,34,35,36,37,38,39,40,41,42,43,44] (by kernel_rfl)
  (fun f w' => Box2 (fun a l w' => ∃ i:Nat,a = i64 i ∧ i ≤ b.L.length ∧ msgsOk 0 b.next (b.L.take i) = true ∧ l = i64 (lastU (b.L.take i)) ∧ Nw wa w') (f 9) (f 3) w') (fun f _ => b.L.length - (intOf (f 9)).toNat)
  ⟨0,rfl,by omega,rfl,rfl,Kp.refl _ _⟩ ?_
 rintro f w' ⟨i,f9,hi,hok,f3,hK⟩
 have c0:=(hb0.nw hK).cell 0
 have c1:=(hb0.nw hK).cell 1
 have c2:=(hb0.nw hK).cell 2
 have c3:=(hb0.nw hK).cell 3
 by_cases hlt:i < b.L.length
 ·have hi1:IntKind.i64.wrap ((i:Int) + 1) = ((i + 1:Nat):Int):=by rw [w64 (by omega) (by omega)]; omega
  obtain ⟨i1,hi1'⟩:∃ i1,i1 = i + 1:=⟨_,rfl⟩
  have htk:b.L.take i1 = b.L.take i ++ [b.L[i]]:=by rw [hi1']; exact List.take_succ_eq_append_getElem hlt
  rw [← hi1'] at hi1
  have hltq:i < q.length:=by omega
  obtain ⟨g,o,rfl,e0,e1,e2,e3⟩:=msg_at ((hr.nw k0).nw hK) hltq
  have hqi:q[i].1 = b.L[i]:=by simp only [← hq,List.getElem_map]
  have hbq:=hb _ (List.getElem_mem hltq)
  rw [hqi] at e0 e1 e2 hbq
  have hnext:msgsOk 0 b.next (b.L.take i1) = msgsOk (lastU (b.L.take i)) b.next [b.L[i]]:=by rw [htk,msgsOk_app,hok]; rfl
  have hfail:msgsOk (lastU (b.L.take i)) b.next [b.L[i]] = false → isB b = false:=fun h => by
   have h2:b.L = b.L.take i1 ++ b.L.drop i1:=(List.take_append_drop i1 b.L).symm
   have h3:msgsOk 0 b.next b.L = false:=by
    conv => lhs; rw [h2]
    rw [msgsOk_app,hnext,h]; rfl
   unfold isB; rw [h3]; simp
  have hlast:lastU (b.L.take i1) = b.L[i].uid:=by unfold lastU; rw [htk,List.getLast?_concat]; rfl
  generalize lastU (b.L.take i) = last at *
  generalize b.L[i] = m at *
  generalize q[i].2 = mv at *
  obtain ⟨Bm,dm,rfl,hrm,hom,hdm⟩:=hbq
  have ka:Nw w' (w'.alloc (.cells #[i64 m.uid,i64 m.flags,i64 m.date,.slice Bm m.body.length dm] 186)):=(Kp.refl _ _).alloc _
  have hq4:Blk (w'.alloc (.cells #[i64 m.uid,i64 m.flags,i64 m.date,.slice Bm m.body.length dm] 186)) w'.heap.size 186 #[i64 m.uid,i64 m.flags,i64 m.date,.slice Bm m.body.length dm]:=Blk.new _ _ _
  have y0:=hq4.cell 0
  have y1:=hq4.cell 1
  have y2:=hq4.cell 2
  have y3:=hq4.cell 3
  have c2a:=((hb0.nw hK).nw ka).cell 2
  have hKa:=hK.nw ka
  have hone:msgsOk last b.next [m] = (decide (last < m.uid) && decide (m.uid < b.next) && okF m.flags 0 31 && okF m.date 0 1073741824 && decide (m.body.length ≤ 1200)):=by simp [msgsOk]
  rw [hone] at hnext hfail
  obtain ⟨z,hz⟩:∃ z,z = w'.heap.size:=⟨_,rfl⟩
  rw [← hz] at hq4 y0 y1 y2 y3
  by_cases g1:m.uid ≤ last
  ·have hf:=hfail (by simp; omega)
   simp -dsimp [go_sem,f9,f3,hlt,e0,e1,e2,e3,y0,g1,hf]
   exact k0.nw hKa
  ·by_cases g2:b.next ≤ m.uid
   ·have hf:=hfail (by simp; omega)
    simp -dsimp [go_sem,f9,f3,hlt,e0,e1,e2,e3,y0,g1,g2,c2,c2a,hf]
    exact k0.nw hKa
   ·simp -dsimp [go_sem,f9,f3,hlt,e0,e1,e2,e3,y0,y1,g1,g2,c2,c2a]
    rw [← hz]
    generalize w'.alloc (.cells #[i64 m.uid,i64 m.flags,i64 m.date,.slice Bm m.body.length dm] 186) = w4 at *
    refine call (bin_spec m.flags 0 31 w4) ?_
    rintro v5 w5 ⟨rfl,rfl⟩
    cases hfl:okF m.flags 0 31 with
    | false =>
     have hf:=hfail (by rw [hfl]; simp)
     simp -dsimp [go_sem,hf]
     exact k0.nw hKa
    | true =>
     simp -dsimp [go_sem,y2]
     refine call (bin_spec m.date 0 1073741824 _) ?_
     rintro v6 w6 ⟨rfl,rfl⟩
     cases hdl:okF m.date 0 1073741824 with
     | false =>
      have hf:=hfail (by rw [hdl]; simp)
      simp -dsimp [go_sem,hf]
      exact k0.nw hKa
     | true =>
      by_cases g5:1200 < m.body.length
      ·have g5':(1200:Int) < (m.body.length:Int):=by omega
       have hf:=hfail (by simp; omega)
       simp -dsimp [go_sem,y3,g5,g5',hf]
       exact k0.nw hKa
      ·have g5':¬ (1200:Int) < (m.body.length:Int):=by omega
       simp -dsimp [go_sem,y0,y3,g5,g5',f9,hi1]
       refine ⟨⟨i1,rfl,by omega,?_,by rw [hlast],hKa⟩,by simp [intOf]; omega⟩
       rw [hnext,hfl,hdl]; simp; omega
 ·have hii:b.L.take i = b.L:=List.take_of_length_le (by omega)
  rw [hii] at hok
  simp -dsimp [go_sem,f9,hlt,c0]
  refine call (bname_spec b.name _ hn) ?_
  rintro v5 w5 ⟨rfl,hk5⟩
  have c15:=hk5.cell_some c1 fun h => h
  have c25:=hk5.cell_some c2 fun h => h
  have c35:=hk5.cell_some c3 fun h => h
  have k5:=(k0.nw hK).nw hk5
  cases hnm:nameOk b.name with
  | false =>
   simp -dsimp [go_sem,isB,hnm]
   exact k5
  | true =>
   simp -dsimp [go_sem,c15]
   refine call (bin_spec b.val 1 1048576 _) ?_
   rintro v6 w6 ⟨rfl,rfl⟩
   cases hvl:okF b.val 1 1048576 with
   | false =>
    simp -dsimp [go_sem,isB,hvl]
    exact k5
   | true =>
    simp -dsimp [go_sem,c25]
    refine call (bin_spec b.next 1 1048576 _) ?_
    rintro v7 w7 ⟨rfl,rfl⟩
    cases hnx:okF b.next 1 1048576 with
    | false =>
     simp -dsimp [go_sem,isB,hnx]
     exact k5
    | true =>
     by_cases h24:b.L.length ≤ 24
     ·have h24':(b.L.length:Int) ≤ 24:=by omega
      simp -dsimp [go_sem,c35,isB,hnm,hvl,hnx,hok,h24,h24']
      exact k5
     ·have h24':¬ (b.L.length:Int) ≤ 24:=by omega
      simp -dsimp [go_sem,c35,isB,hnm,hvl,hnx,hok,h24,h24']
      exact k5
set_option maxHeartbeats 2000000
theorem conv_bytes2 {P:Program} {src dst e:TypeId} (hs:P.underlying src = some .string) (hd:P.underlying dst = some (.slice e)) (he:P.underlying e = some (.int .u8)) (s:ByteArray) (w:World) :
  ∃ c w',(convert src dst (.string s)).run P w = .ok (.slice (some ⟨w.heap.size,0,none⟩) s.data.toList.length c) w' ∧ s.data.toList.length ≤ c ∧ Nw w w' ∧ Rd w' (some ⟨w.heap.size,0,none⟩) (s.data.toList.map u8) ∧ w.heap.size < w'.heap.size:=by
 refine ⟨_,_,run_bytes_of_string w src dst e s hs hd he,?_,((Kp.refl _ w).drew).alloc _,fun j u hj => ⟨_,_,rfl,?_⟩,by simp⟩
 ·have:s.data.toList.length = s.size:=by rw [Array.length_toList]; rfl
  rw [this]
  exact grownCap_ge _ _ _ _
 have hl:j < s.data.toList.length:=by simpa using (List.getElem?_eq_some_iff.1 hj).1
 rw [List.getElem?_map,List.getElem?_eq_getElem hl] at hj
 simp only [Option.map_some,Option.some.injEq] at hj
 subst hj
 have hl':j < s.data.size:=by simpa using hl
 have hl2:j < s.size:=hl'
 simp [World.cell?,World.alloc,World.drew,-World.alloc_eq,-World.drew_eq,bytesRow,Array.getElem?_append,hl',hl2,u8]
theorem brs_one {w:World} {g:Nat} {B:Option Addr} {d:Nat} {p:List UInt8} {S:Nat → Prop} {t:TypeId} (h:Blk w g t #[.slice B p.length d]) (hg:¬ S g) (hr:Rd w B (p.map u8)) (hB:Ofl B (p.map u8) S) (hd:p.length ≤ d):Brs w (some ⟨g,0,none⟩) [p] S :=
 (RV.one hr hB hd).brs (Rd.of_heap h) fun a ha _ => by cases ha; exact hg
theorem bencode_spec (v:Value) (b:Bx) (w:World) (h:RB w v b (fun _ => False)) (hn:b.name.size ≤ 9223372036854775807) (hll:b.L.length ≤ 9223372036854775807) :
  Cal Tryz.prog 164 #[v] w fun v' w' => EncR v' w' b w.heap.size ∧ Nw w w':=by
 have hRB:=h
 obtain ⟨A,c,q,rfl,hq,hc,hr,ho,hb⟩:=h
 have hql:q.length = b.L.length:=by rw [← hq,List.length_map]
 refine enter Tryz.mixed Tryz.func164 rfl (by kernel_rfl) ?_
 have k0:Nw w (w.alloc (.cells #[.string b.name,i64 b.val,i64 b.next,.slice A b.L.length c] 111)):=(Kp.refl _ _).alloc _
 have hb0:Blk (w.alloc (.cells #[.string b.name,i64 b.val,i64 b.next,.slice A b.L.length c] 111)) w.heap.size 111 #[.string b.name,i64 b.val,i64 b.next,.slice A b.L.length c]:=Blk.new _ _ _
 obtain ⟨x,hx⟩:∃ x,x = w.heap.size:=⟨_,rfl⟩
 simp -dsimp [go_sem]
 rw [← hx] at hb0 ⊢
 generalize w.alloc (.cells #[.string b.name,i64 b.val,i64 b.next,.slice A b.L.length c] 111) = wa at *
 refine call (bis_spec _ b (fun _ => False) wa (hRB.nw k0) hn hll) ?_
 rintro v w1 ⟨rfl,hk1⟩
 cases hib:isB b with
 | false =>
  simp -dsimp [go_sem]
  exact ⟨.inr ⟨hib,rfl⟩,k0.nw hk1⟩
 | true =>
  have hI:=IsB.of hib
  have k1:=k0.nw hk1
  have hb1:=hb0.nw hk1
  have hxl:=hb1.lt
  obtain ⟨hnsz,hns1⟩:b.name.size ≤ 12 ∧ 1 ≤ b.name.size:=by
   have:nameOk b.name = true:=by
    simp only [isB,Bool.and_eq_true] at hib
    exact hib.1.1.2
   unfold nameOk at this
   simp only [Bool.and_eq_true,decide_eq_true_eq] at this
   exact ⟨this.2,this.1.2⟩
  have kb:Nw w1 (w1.alloc (.cells #[.slice none 0 0] 70)):=(Kp.refl _ _).alloc _
  have hg0:=Blk.new w1 70 #[.slice none 0 0]
  obtain ⟨g,hg⟩:∃ g,g = w1.heap.size:=⟨_,rfl⟩
  have hxg:x < g:=by omega
  have hbb:=hb1.nw kb
  have x0:=hbb.cell 0
  have kwb:=k1.nw kb
  simp -dsimp [go_sem]
  rw [← hg] at hg0 ⊢
  generalize w1.alloc (.cells #[.slice none 0 0] 70) = wb at *
  obtain ⟨c2,w2,hcv,hcl,hk2,hr2,hlt2⟩:=conv_bytes2 (P:=Tryz.prog) (src:=9) (dst:=23) (e:=5) (by kernel_rfl) (by kernel_rfl) (by kernel_rfl) b.name wb
  have hcv:convR Tryz.prog 9 23 (.string b.name) wb = _:=hcv
  obtain ⟨nl,hnl⟩:∃ nl,nl = b.name.data.toList:=⟨_,rfl⟩
  have hnll:nl.length ≤ 12:=by rw [hnl,Array.length_toList]; exact hnsz
  rw [← hnl] at hcv hcl hr2
  simp -dsimp [go_sem,x0,hcv]
  have kc:Nw w2 (w2.alloc (.cells #[.slice (some ⟨wb.heap.size,0,none⟩) nl.length c2] 23)):=(Kp.refl _ _).alloc _
  have hgs:g < wb.heap.size:=hg0.lt
  have hW0:Wr (w2.alloc (.cells #[.slice (some ⟨wb.heap.size,0,none⟩) nl.length c2] 23)) g [] (At g) :=
   ⟨none,0,(hg0.nw hk2).nw kc,Ow.nil _ _ _,(fun a ha => by cases ha),(fun k hk => hk.elim id fun h => h.elim),fun k (e:k = g) => by have:=(hk2.nw kc).size; omega⟩
  have hbr:Brs (w2.alloc (.cells #[.slice (some ⟨wb.heap.size,0,none⟩) nl.length c2] 23)) (some ⟨w2.heap.size,0,none⟩) [nl] (At g) :=
   brs_one (Blk.new w2 _ _) (fun (e:w2.heap.size = g) => by have:=hk2.size; omega) (hr2.nw kc) (fun a ha _ (e:a.block = g) => by cases ha; simp at e; omega) hcl
  refine call (wBytes_spec g [] [nl] (At g) _ 1 _ hW0 hbr (by simp [load]; omega)) ?_
  rintro v w3 ⟨rfl,F3,hW3,hG3,hK3⟩
  rw [show [] ++ rowsB [nl] = rowB nl by simp [rowsB]] at hW3
  have hbx3:=((hbb.nw hk2).nw kc).kp hK3 fun (e:x = g) => by omega
  have k3:Nw w w3:=((kwb.nw hk2).nw kc).at_ hK3 fun k (e:k = g) => by have:=k0.size; omega
  have hwg:w.heap.size ≤ g:=by omega
  have nF3:Nf w F3:=fun k hk => (hG3 k hk).elim (fun (e:k = g) => by omega) fun e => by have:=((kwb.nw hk2).nw kc).size; omega
  have hF3x:∀ k,F3 k → x < k:=fun k hk => (hG3 k hk).elim (fun (e:k = g) => by omega) fun e => by have:=(hk2.nw kc).size; omega
  have nG3:Nf w1 F3:=fun k hk => (hG3 k hk).elim (fun (e:k = g) => by omega) fun e => by have:=(hk2.nw kc).size; omega
  have kw13:w1.heap.size ≤ w3.heap.size:=by have:=(hk2.nw kc).size; have:=hK3.size; omega
  have hrnl:=rowB_lenq (l:=nl) (by omega)
  have x1:=hbx3.cell 1
  have x2:=hbx3.cell 2
  have x3:=hbx3.cell 3
  simp -dsimp [go_sem,x1,x2,x3]
  have kd:Nw w3 (w3.alloc (.cells #[i64 b.val,i64 b.next,i64 b.L.length] 3)):=(Kp.refl _ _).alloc _
  refine call (wNums_spec g (rowB nl) [b.val,b.next,(b.L.length:Int)] F3 (some ⟨w3.heap.size,0,none⟩) 3 _ (hW3.kp_ kd fun _ _ h => h) (Rd.fresh rfl rfl) (fun a ha _ hf => by cases ha; have:=hW3.lt_ _ hf; simp at this) (by simp; omega)) ?_
  rintro v w4 ⟨rfl,F4,hW4,hG4,hK4⟩
  obtain ⟨pre,hpre⟩:∃ pre,pre = rowB nl ++ numsB [b.val,b.next,(b.L.length:Int)]:=⟨_,rfl⟩
  have hprel:pre.length ≤ 60:=by
   rw [hpre,List.length_append]
   have:=numsB_len [b.val,b.next,(b.L.length:Int)]
   simp only [List.length_cons,List.length_nil] at this
   omega
  rw [← hpre] at hW4
  have k4:Nw w w4:=(k3.nw kd).at_ hK4 fun k hk => nF3 k hk
  have nF4:Nf w F4:=Nf.gr nF3 hG4 (k3.nw kd).size
  have nG4:Nf w1 F4:=Nf.gr nG3 hG4 (Nat.le_trans kw13 kd.size)
  have hF4x:∀ k,F4 k → x < k:=fun k hk => by have:=nG4 k hk; omega
  have hbx4:=(hbx3.nw kd).kp hK4 fun e => Nat.lt_irrefl _ (hF3x x e)
  have x34:=hbx4.cell 3
  have hms:∀ m ∈ b.L,m.body.length ≤ 1200:=fun m hm => (hI.all m hm).2.2.2.2
  have hl24:=hI.len
  obtain ⟨N,hN⟩:∃ N,N = b.L.length:=⟨_,rfl⟩
  rw [← hN] at x34 hl24
  simp -dsimp [go_sem,x34]
  refine loop [6,27,28,29,30,31,32,33,34,35,36,37,38,39,40,41,42,43] (by kernel_rfl)
   (fun f w' => Box1 (fun a w' => ∃ (i:Nat) (F:Nat → Prop),a = i64 i ∧ i ≤ N ∧ Wr w' g (pre ++ (b.L.take i).flatMap encM) F ∧ Nf w F ∧ Nw w w') (f 27) w') (fun f _ => N - (intOf (f 27)).toNat)
   ⟨0,F4,rfl,Nat.zero_le _,by simpa using hW4,nF4,k4⟩ ?_
  rintro f w5 ⟨i,F,f27,hi,hW,nF,k5⟩
  by_cases hlt:i < N
  ·have hltL:i < b.L.length:=by omega
   have hi1:IntKind.i64.wrap ((i:Int) + 1) = ((i + 1:Nat):Int):=by rw [w64 (by omega) (by omega)]; omega
   obtain ⟨i1,hi1'⟩:∃ i1,i1 = i + 1:=⟨_,rfl⟩
   have htk:(b.L.take i1).flatMap encM = (b.L.take i).flatMap encM ++ encM b.L[i]:=by rw [hi1',List.take_succ_eq_append_getElem hltL,List.flatMap_append]; simp
   rw [← hi1'] at hi1
   have hltq:i < q.length:=by omega
   obtain ⟨ga,o,rfl,e0,e1,e2,e3⟩:=msg_at (hr.nw k5) hltq
   have hqi:q[i].1 = b.L[i]:=by simp only [← hq,List.getElem_map]
   have hbq:=hb _ (List.getElem_mem hltq)
   rw [hqi] at e0 e1 e2 hbq
   have hmb:=hms _ (List.getElem_mem hltL)
   have htl:((b.L.take i).flatMap encM).length ≤ 1236 * 24:=by
    have:=encMs_len (b.L.take i) fun m hm => hms m (List.mem_of_mem_take hm)
    have h2:(b.L.take i).length ≤ 24:=by rw [List.length_take]; omega
    have h3:=Nat.mul_le_mul_left 1236 h2
    omega
   generalize (b.L.take i).flatMap encM = cur at *
   generalize b.L[i] = m at *
   generalize q[i].2 = mv at *
   obtain ⟨Bm,dm,rfl,hrm,hom,hdm⟩:=hbq
   have ka:Nw w5 (w5.alloc (.cells #[i64 m.uid,i64 m.flags,i64 m.date,.slice Bm m.body.length dm] 186)):=(Kp.refl _ _).alloc _
   have hy0:=Blk.new w5 186 #[i64 m.uid,i64 m.flags,i64 m.date,.slice Bm m.body.length dm]
   obtain ⟨y,hy⟩:∃ y,y = w5.heap.size:=⟨_,rfl⟩
   have hFy:∀ k,F k → k < y:=fun k hk => by have:=hW.lt_ k hk; omega
   have hWa:=hW.kp_ ka fun _ _ h => h
   have ka5:=k5.nw ka
   have hys6:(w5.alloc (.cells #[i64 m.uid,i64 m.flags,i64 m.date,.slice Bm m.body.length dm] 186)).heap.size = y + 1:=by simp [hy]
   simp -dsimp [go_sem,f27,hlt,e0,e1,e2,e3]
   rw [← hy] at hy0 ⊢
   generalize w5.alloc (.cells #[i64 m.uid,i64 m.flags,i64 m.date,.slice Bm m.body.length dm] 186) = w6 at *
   have hys:=hy0.lt
   have y0:=hy0.cell 0
   have y1:=hy0.cell 1
   have y2:=hy0.cell 2
   have kn:Nw w6 (w6.alloc (.cells #[i64 m.uid,i64 m.flags,i64 m.date] 3)):=(Kp.refl _ _).alloc _
   refine call (wNums_spec g (pre ++ cur) [m.uid,m.flags,m.date] F (some ⟨y + 1,0,none⟩) 3 _ (hWa.kp_ kn fun _ _ h => h) (Rd.fresh hys6.symm rfl) (fun a ha _ hf => by cases ha; have:=hWa.lt_ _ hf; simp at this; omega) (by rw [List.length_append]; simp; omega)) ?_
   rintro v w7 ⟨rfl,F7,hW7,hG7,hK7⟩
   have hy7:=(hy0.nw kn).kp hK7 fun e => Nat.lt_irrefl _ (hFy y e)
   have y3:=hy7.cell 3
   have k7:Nw w w7:=(ka5.nw kn).at_ hK7 fun k hk => nF k hk
   have nF7:Nf w F7:=Nf.gr nF hG7 (ka5.nw kn).size
   simp -dsimp [go_sem,y3]
   have kr:Nw w7 (w7.alloc (.cells #[.slice Bm m.body.length dm] 23)):=(Kp.refl _ _).alloc _
   have hnum:=numsB_len [m.uid,m.flags,m.date]
   simp only [List.length_cons,List.length_nil] at hnum
   refine call (wBytes_spec g _ [m.body] F7 (some ⟨w7.heap.size,0,none⟩) 1 _ (hW7.kp_ kr fun _ _ h => h) (brs_one (Blk.new w7 _ _) (fun e => by have:=hW7.lt_ _ e; omega) ((hrm.nw k7).nw kr) (hrm.ofl fun i hi => nF7 i hi) hdm) (by rw [List.length_append,List.length_append]; simp [load]; omega)) ?_
   rintro v w8 ⟨rfl,F8,hW8,hG8,hK8⟩
   have k8:Nw w w8:=(k7.nw kr).at_ hK8 fun k hk => nF7 k hk
   have nF8:Nf w F8:=Nf.gr nF7 hG8 (k7.nw kr).size
   have he:pre ++ cur ++ numsB [m.uid,m.flags,m.date] ++ rowsB [m.body] = pre ++ (cur ++ encM m):=by simp [rowsB,encM]
   rw [he,← htk] at hW8
   simp -dsimp [go_sem,f27,hi1]
   exact ⟨⟨i1,F8,rfl,by omega,hW8,nF8,k8⟩,by simp [intOf]; omega⟩
  ·obtain rfl:i = N:=by omega
   rw [hN,List.take_length] at hW
   have hex:encX b = pre ++ b.L.flatMap encM:=by rw [hpre,hnl]; rfl
   have htl:=encMs_len b.L hms
   rw [← hex] at hW
   have hexl:(encX b).length ≤ 140737488355328:=by rw [hex,List.length_append]; omega
   simp -dsimp [go_sem,f27,hlt]
   refine call (wOut_spec g (encX b) F w5 hW hexl) ?_
   rintro v w6 ⟨hB6,hk6⟩
   simp -dsimp [go_sem]
   exact ⟨.inl ⟨hib,_,rfl,hB6.mono (by have:=k5.size; omega)⟩,k5.nw hk6⟩
set_option maxHeartbeats 1000000
def nm2 (l:List UInt8) (bad:Bool):Nat × List UInt8 × Bool:=numL (numL l bad).2.1 (numL l bad).2.2
def nm3 (l:List UInt8) (bad:Bool):Nat × List UInt8 × Bool:=numL (nm2 l bad).2.1 (nm2 l bad).2.2
theorem nm2_len (l:List UInt8) (bad:Bool):(nm2 l bad).2.1.length ≤ l.length:=Nat.le_trans (numL_len _ _) (numL_len _ _)
theorem nm3_len (l:List UInt8) (bad:Bool):(nm3 l bad).2.1.length ≤ l.length:=Nat.le_trans (numL_len _ _) (nm2_len _ _)
/-- A message read. -/
def msgL (l:List UInt8) (bad:Bool):Msg × List UInt8 × Bool :=
 (⟨(numL l bad).1,(nm2 l bad).1,(nm3 l bad).1,(bytL (nm3 l bad).2.1 (nm3 l bad).2.2).1⟩,(bytL (nm3 l bad).2.1 (nm3 l bad).2.2).2.1,(bytL (nm3 l bad).2.1 (nm3 l bad).2.2).2.2)
/-- So many messages read, while all is well. -/
def bxL:Nat → List UInt8 → Bool → List Msg → List Msg × List UInt8 × Bool
 | 0,l,bad,acc => (acc,l,bad)
 | n + 1,l,bad,acc => if bad = true then (acc,l,bad) else bxL n (msgL l bad).2.1 (msgL l bad).2.2 (acc ++ [(msgL l bad).1])
/-- What a box's bytes begin with: its name, and three numbers. -/
def bxRead (p:List UInt8):Bx × List UInt8 × Bool :=
 (⟨⟨(bytL p false).1.toArray⟩,(numL (bytL p false).2.1 (bytL p false).2.2).1,(nm2 (bytL p false).2.1 (bytL p false).2.2).1,(bxL (nm3 (bytL p false).2.1 (bytL p false).2.2).1 (nm3 (bytL p false).2.1 (bytL p false).2.2).2.1 (nm3 (bytL p false).2.1 (bytL p false).2.2).2.2 []).1⟩,
  (bxL (nm3 (bytL p false).2.1 (bytL p false).2.2).1 (nm3 (bytL p false).2.1 (bytL p false).2.2).2.1 (nm3 (bytL p false).2.1 (bytL p false).2.2).2.2 []).2.1,(bxL (nm3 (bytL p false).2.1 (bytL p false).2.2).1 (nm3 (bytL p false).2.1 (bytL p false).2.2).2.1 (nm3 (bytL p false).2.1 (bytL p false).2.2).2.2 []).2.2)
def bxOk (p:List UInt8):Bool:=(!(bxRead p).2.2 && (bxRead p).2.1.isEmpty) && isB (bxRead p).1
def DecR (v:Value) (w:World) (p:List UInt8) (B:Nat):Prop:=(bxOk p = true ∧ ∃ u,v = .tuple #[u,i64 0] ∧ OB w u (bxRead p).1 B) ∨ (bxOk p = false ∧ v = .tuple #[.agg #[.string ⟨#[]⟩,i64 0,i64 0,.slice none 0 0],i64 3])
theorem takeN_used:∀ (l:List UInt8) (i u n:Nat) (r:List UInt8),takeN i u l = some (n,r) → r.length + 1 ≤ l.length
 | [],_,_,_,_,h => by simp [takeN] at h
 | c :: l,i,u,n,r,h => by
  simp only [takeN] at h
  split at h
  ·cases h
  ·split at h
   ·split at h
    ·cases h
    ·injection h with h
     injection h with h1 h2
     subst h2
     simp
   ·have:=takeN_used l _ _ _ _ h
    simp; omega
theorem numL_used {l:List UInt8} {bad:Bool} (h:(numL l bad).2.2 = false):(numL l bad).2.1.length + 1 ≤ l.length ∧ bad = false:=by
 unfold numL at h ⊢
 cases hx:takeN 0 0 l with
 | none => rw [hx] at h; cases h
 | some q =>
  obtain ⟨u,r⟩:=q
  rw [hx] at h
  exact ⟨takeN_used _ _ _ _ _ hx,h⟩
theorem bytL_size (l:List UInt8) (bad:Bool):(bytL l bad).1.length ≤ l.length ∧ (bytL l bad).2.1.length ≤ l.length:=by
 have:=numL_len l bad
 unfold bytL rawL
 split
 ·simp only [List.length_take,List.length_drop]; omega
 ·simp
theorem bytL_used {l:List UInt8} {bad:Bool} (h:(bytL l bad).2.2 = false):(bytL l bad).2.1.length + 1 ≤ l.length ∧ bad = false:=by
 unfold bytL rawL at h ⊢
 split at h
 ·rename_i hc
  have h1:=numL_used h
  rw [if_pos hc]
  refine ⟨?_,h1.2⟩
  simp only [List.length_drop]; omega
 ·cases h
theorem msgL_used {l:List UInt8} {bad:Bool} (h:(msgL l bad).2.2 = false):(msgL l bad).2.1.length + 4 ≤ l.length:=by
 have h1:=bytL_used h
 have h2:=numL_used h1.2
 have h3:=numL_used h2.2
 have h4:=numL_used h3.2
 have e1:(msgL l bad).2.1 = (bytL (nm3 l bad).2.1 (nm3 l bad).2.2).2.1:=rfl
 have e2:(nm3 l bad).2.1 = (numL (nm2 l bad).2.1 (nm2 l bad).2.2).2.1:=rfl
 have e3:(nm2 l bad).2.1 = (numL (numL l bad).2.1 (numL l bad).2.2).2.1:=rfl
 rw [e1]
 rw [← e2] at h2
 rw [← e3] at h3
 omega
theorem msgL_size (l:List UInt8) (bad:Bool):(msgL l bad).1.body.length ≤ l.length ∧ (msgL l bad).2.1.length ≤ l.length:=by
 have h1:=bytL_size (nm3 l bad).2.1 (nm3 l bad).2.2
 have h2:=nm3_len l bad
 exact ⟨Nat.le_trans h1.1 h2,Nat.le_trans h1.2 h2⟩
/-- Three numbers read into three places. -/
theorem nums_gen (g s b0 o0 b1 o1 b2 o2:Nat) (t:TypeId) (l:List UInt8) (bad:Bool) (F S:Nat → Prop) (w:World) (Q:Nat → World → Prop) (h:Rdr w g l bad F) (hl:l.length ≤ 140737488355328)
  (hs:Blk w s t #[.pointer (some ⟨b0,o0,none⟩),.pointer (some ⟨b1,o1,none⟩),.pointer (some ⟨b2,o2,none⟩)]) (hFs:¬ F s) (hSs:¬ S s) (hFS:∀ i,F i → ¬ S i) (hb0:S b0) (hb1:S b1) (hb2:S b2)
  (q0:Q 0 w) (hQ:∀ i w1 w2,Q i w1 → Kp (At g) w1 w2 → Q i w2)
  (st0:∀ w1,Q 0 w1 → (∃ u,w1.cell? ⟨b0,o0,none⟩ = some u) ∧ w1.frozen? ⟨b0,o0,none⟩ = false ∧ Q 1 (w1.setCell ⟨b0,o0,none⟩ (i64 (numL l bad).1)))
  (st1:∀ w1,Q 1 w1 → (∃ u,w1.cell? ⟨b1,o1,none⟩ = some u) ∧ w1.frozen? ⟨b1,o1,none⟩ = false ∧ Q 2 (w1.setCell ⟨b1,o1,none⟩ (i64 (nm2 l bad).1)))
  (st2:∀ w1,Q 2 w1 → (∃ u,w1.cell? ⟨b2,o2,none⟩ = some u) ∧ w1.frozen? ⟨b2,o2,none⟩ = false ∧ Q 3 (w1.setCell ⟨b2,o2,none⟩ (i64 (nm3 l bad).1))) :
  Cal Tryz.prog 42 #[.pointer (some ⟨g,0,none⟩),.slice (some ⟨s,0,none⟩) 3 3] w fun v w' => v = .tuple #[] ∧ Q 3 w' ∧ Rdr w' g (nm3 l bad).2.1 (nm3 l bad).2.2 F ∧ Kp (fun k => k = g ∨ S k) w w':=by
 have hgF:=h.in_
 have l1:=numL_len l bad
 have l2:=nm2_len l bad
 refine enter Tryz.mixed Tryz.func42 rfl (by kernel_rfl) ?_
 simp -dsimp [go_sem]
 refine loop [5,6,9,10,11,12,13,14,15,16,17,18,19,20] (by kernel_rfl)
  (fun f w' => Box1 (fun x w' => ∃ i:Nat,i ≤ 3 ∧ x = i64 i ∧ Kp (fun k => k = g ∨ S k) w w' ∧ Q i w' ∧
   (i = 0 → Rdr w' g l bad F) ∧ (i = 1 → Rdr w' g (numL l bad).2.1 (numL l bad).2.2 F) ∧ (i = 2 → Rdr w' g (nm2 l bad).2.1 (nm2 l bad).2.2 F) ∧ (i = 3 → Rdr w' g (nm3 l bad).2.1 (nm3 l bad).2.2 F)) (f 9) w')
  (fun f _ => 3 - (intOf (f 9)).toNat) ⟨0,by omega,rfl,Kp.refl _ _,q0,fun _ => h,fun h => by omega,fun h => by omega,fun h => by omega⟩ ?_
 rintro f w' ⟨i,hi,f9,hK,hq,i0,i1,i2,i3⟩
 have hgs:s ≠ g:=fun e => hFs (e ▸ hgF)
 have hs':=hs.kp hK fun e => by
  rcases e with e | e
  ·exact hgs e
  ·exact hSs e
 have s0:=hs'.cell 0
 have s1:=hs'.cell 1
 have s2:=hs'.cell 2
 have hi4:i = 0 ∨ i = 1 ∨ i = 2 ∨ i = 3:=by omega
 rcases hi4 with rfl | rfl | rfl | rfl
 ·have hR:=i0 rfl
  simp -dsimp [go_sem,f9,s0]
  refine call (num_spec g _ _ F w' hR (by omega)) ?_
  rintro v w2 ⟨rfl,hR2,hk2⟩
  obtain ⟨⟨u0,hu0⟩,hfr,hnx⟩:=st0 w2 (hQ _ _ _ hq hk2)
  simp -dsimp [go_sem,f9,hu0,hfr]
  have hset:Kp (At b0) w2 (w2.setCell ⟨b0,o0,none⟩ (i64 (numL l bad).1)):=(Kp.refl _ _).setCell_at _ _
  exact ⟨⟨1,by omega,rfl,(hK.trans hk2 fun _ _ e => .inl e).trans hset fun _ _ (e:_ = b0) => .inr (e ▸ hb0),hnx,fun e => by omega,fun _ => hR2.kp_ hset fun i hF (e:i = b0) => hFS i hF (e ▸ hb0),fun e => by omega,fun e => by omega⟩,by simp [intOf]; decide +kernel⟩
 ·have hR:=i1 rfl
  simp -dsimp [go_sem,f9,s1]
  refine call (num_spec g _ _ F w' hR (by omega)) ?_
  rintro v w2 ⟨rfl,hR2,hk2⟩
  obtain ⟨⟨u0,hu0⟩,hfr,hnx⟩:=st1 w2 (hQ _ _ _ hq hk2)
  simp -dsimp [go_sem,f9,hu0,hfr]
  have hset:Kp (At b1) w2 (w2.setCell ⟨b1,o1,none⟩ (i64 (nm2 l bad).1)):=(Kp.refl _ _).setCell_at _ _
  exact ⟨⟨2,by omega,rfl,(hK.trans hk2 fun _ _ e => .inl e).trans hset fun _ _ (e:_ = b1) => .inr (e ▸ hb1),hnx,fun e => by omega,fun e => by omega,fun _ => hR2.kp_ hset fun i hF (e:i = b1) => hFS i hF (e ▸ hb1),fun e => by omega⟩,by simp [intOf]; decide +kernel⟩
 ·have hR:=i2 rfl
  simp -dsimp [go_sem,f9,s2]
  refine call (num_spec g _ _ F w' hR (by omega)) ?_
  rintro v w2 ⟨rfl,hR2,hk2⟩
  obtain ⟨⟨u0,hu0⟩,hfr,hnx⟩:=st2 w2 (hQ _ _ _ hq hk2)
  simp -dsimp [go_sem,f9,hu0,hfr]
  have hset:Kp (At b2) w2 (w2.setCell ⟨b2,o2,none⟩ (i64 (nm3 l bad).1)):=(Kp.refl _ _).setCell_at _ _
  exact ⟨⟨3,by omega,rfl,(hK.trans hk2 fun _ _ e => .inl e).trans hset fun _ _ (e:_ = b2) => .inr (e ▸ hb2),hnx,fun e => by omega,fun e => by omega,fun e => by omega,fun _ => hR2.kp_ hset fun i hF (e:i = b2) => hFS i hF (e ▸ hb2)⟩,by simp [intOf]; decide +kernel⟩
 ·simp -dsimp [go_sem,f9]
  exact ⟨hq,i3 rfl,hK⟩
end Go.Proofs.YtellahclbhfdiaaGreatDoor
