/-
  box: Mark walked. By the session itself. The laws' large; what a box that may be has. By the session itself. What arguments are: structs, slices of structs that hold slices, with their sizes. By the session itself. What arguments are: structs, slices of structs that hold slices. By the session itself. Boxes handed in: the form of the type read off its fields. By the session itself. Slices of structs handed in, with their sizes; the acts. By the session itself. The laws' long; a box grown from nothing is one that may be. By the session itself. What the small functions of octet come to: copies of bytes, the Reader's looks. By the session itself.
-/
import Derived.Test.YtellahclbhfdiaaGreatDoorZ06
import Derived.Test.YtellahclbhfdiaaGreatDoorZ03
import Derived.Test.YtellahclbhfdiaaGreatDoorZ04
namespace Go.Proofs.YtellahclbhfdiaaGreatDoor
set_option linter.unusedSimpArgs false
set_option linter.unusedVariables false
set_option maxRecDepth 100000
set_option maxHeartbeats 2000000
open Go.Vc Go.RowKit
def mk1 (uids:List Int) (mode flags:Int) (m:Msg):Msg:=if m.uid ∈ uids then { m with flags:=applyF mode m.flags flags } else m
def mkP (uids:List Int) (mode flags:Int) (p:Msg × Value):Msg × Value:=(mk1 uids mode flags p.1,p.2)
def markN (uids:List Int) (mode flags:Int) (L:List Msg):Nat:=(L.filter fun m => decide (m.uid ∈ uids) && (applyF mode m.flags flags != m.flags)).length
theorem mkP_fst (uids:List Int) (mode flags:Int) (q:MQ):(q.map (mkP uids mode flags)).map Prod.fst = (q.map Prod.fst).map (mk1 uids mode flags):=by simp [mkP]
def MarkR (v:Value) (w':World) (b:Bx) (n:Nat) (B:Nat):Prop:=∃ bv,v = .tuple #[bv,i64 n] ∧ OB w' bv b B
theorem markN_le (uids:List Int) (mode flags:Int) (L:List Msg):markN uids mode flags L ≤ L.length:=List.length_filter_le _ _
theorem mark_spec (v:Value) (b:Bx) (S:Nat → Prop) (uids:List Int) (mode flags:Int) (X:Option Addr) (xc:Nat) (w:World) (h:RB w v b S) (hl:b.L.length ≤ 1000000) (hbl:∀ m ∈ b.L,m.body.length ≤ 1000000000)
  (hx:Rd w X (uids.map i64)) (hxl:uids.length ≤ 1000000000) :
  Cal Tryz.prog 93 #[v,.slice X uids.length xc,i64 mode,i64 flags] w fun v' w' => MarkR v' w' { b with L:=b.L.map (mk1 uids mode flags) } (markN uids mode flags b.L) w.heap.size ∧ Nw w w':=by
 obtain ⟨A,c,q,rfl,hq,hc,hr,ho,hb⟩:=id h
 refine enter Tryz.mixed Tryz.func93 rfl (by kernel_rfl) ?_
 simp -dsimp [go_sem]
 obtain ⟨x,hx',hb0,hz0,hsz,n0⟩:=two_new w 111 111 #[.string b.name,i64 b.val,i64 b.next,.slice A b.L.length c] #[.string ⟨#[]⟩,i64 0,i64 0,.slice none 0 0]
 rw [← hx']
 generalize (w.alloc (.cells #[.string b.name,i64 b.val,i64 b.next,.slice A b.L.length c] 111)).alloc (.cells #[.string ⟨#[]⟩,i64 0,i64 0,.slice none 0 0] 111) = wa at *
 refine call (copied_spec _ b S wa (h.nw n0) hl hbl) ?_
 rintro v1 w1 ⟨⟨vL,rfl,hO⟩,hk1⟩
 have hb1:=hb0.nw hk1
 have hz1:=hz0.nw hk1
 have n1:=n0.nw hk1
 rw [hsz] at hO
 obtain ⟨q2,A2,d2,rfl,hq2,ho2,hA2,hbd2⟩:=id hO
 have c0:=hb1.cell 0
 have c1:=hb1.cell 1
 have c2:=hb1.cell 2
 have c3:=hb1.cell 3
 have f0:=hb1.frozen 0
 have f1:=hb1.frozen 1
 have f2:=hb1.frozen 2
 have f3:=hb1.frozen 3
 have hb:=blk_set4 hb1 (.string b.name) (i64 b.val) (i64 b.next) (.slice A2 b.L.length d2)
 have ks:=kp_set4 w1 x (.string b.name) (i64 b.val) (i64 b.next) (.slice A2 b.L.length d2)
 have hz:=hz1.kp ks (by show ¬ x + 1 = x; omega)
 have hL:=hO.kp ks fun k hk _ (e:k = x) => by omega
 have n2:=n1.at_ ks fun k (e:k = x) => by omega
 have hs2:x + 2 ≤ w1.heap.size:=by rw [← hsz]; exact hk1.size
 have hs3:=Nat.le_trans hs2 ks.size
 have c3':=hb.cell 3
 simp -dsimp [go_sem,c0,c1,c2,c3,f0,f1,f2,f3,c3']
 generalize (((w1.setCell ⟨x,0,none⟩ (.string b.name)).setCell ⟨x,1,none⟩ (i64 b.val)).setCell ⟨x,2,none⟩ (i64 b.next)).setCell ⟨x,3,none⟩ (.slice A2 b.L.length d2) = w2 at *
 clear c0 c1 c2 c3 c3' f0 f1 f2 f3 hb0 hz0 hb1 hz1 ks hk1 ho2 hA2 hbd2 hq2 hO
 obtain ⟨q3,A3,d3,e3,hq3,ho3,hA3,hbd3⟩:=hL
 cases e3
 have hql:q3.length = b.L.length:=by rw [← hq3,List.length_map]
 refine loop [10,11,12,18,19,20,21,22,23,24,25,26,27,28,29,30,31,32,33,34,35,36,37,38,39,40,41,42,43,44,45,46,47,48,49] (by kernel_rfl)
  (fun f w' => Box2 (fun a vn w' => ∃ (i n:Nat),a = i64 i ∧ i ≤ q3.length ∧ n = markN uids mode flags ((q3.take i).map Prod.fst) ∧ vn = i64 n ∧
   Ow w' 186 4 A2 b.L.length d2 (mq ((q3.take i).map (mkP uids mode flags) ++ q3.drop i)) ∧ Kp (blk A2) w2 w') (f 18) (f 10) w') (fun f _ => q3.length - (intOf (f 18)).toNat)
  ⟨0,0,rfl,by omega,rfl,rfl,by simpa using ho3,Kp.refl _ _⟩ ?_
 rintro f w' ⟨i,n,f18,hi,hn,f10,ho',hK⟩
 have hA2b:∀ k,blk A2 k → x + 2 ≤ k:=fun k hk => by
  obtain ⟨a,rfl,rfl⟩:=blk_of hk
  exact hA3 a rfl
 have hb':=hb.kp hK fun h => by have:=hA2b x h; omega
 have hz':=hz.kp hK fun h => by have:=hA2b (x + 1) h; omega
 have n3:Nw w w':=n2.at_ hK fun k h => by have:=hA2b k h; omega
 by_cases hlt:i < q3.length
 ·have hlt':i < b.L.length:=by omega
  have hi1:IntKind.i64.wrap ((i:Int) + 1) = ((i + 1:Nat):Int):=by rw [w64 (by omega) (by omega)]; omega
  obtain ⟨i1,hi1'⟩:∃ i1,i1 = i + 1:=⟨_,rfl⟩
  rw [← hi1'] at hi1
  have hml:((q3.take i).map (mkP uids mode flags)).length = i:=by simp; omega
  have htk:q3.take i1 = q3.take i ++ [q3[i]]:=by rw [hi1',List.take_succ_eq_append_getElem hlt]
  have hdr:q3.drop i = q3[i] :: q3.drop i1:=by rw [hi1']; exact List.drop_eq_getElem_cons hlt
  rw [hdr] at ho'
  have hbm:=hbd3 _ (List.getElem_mem hlt)
  have hnl:=markN_le uids mode flags ((q3.take i).map Prod.fst)
  rw [← hn,List.length_map,List.length_take] at hnl
  generalize q3[i] = p at *
  obtain ⟨m,mv⟩:=p
  have hil:i < ((q3.take i).map (mkP uids mode flags) ++ (m,mv) :: q3.drop i1).length:=by rw [List.length_append,hml]; simp
  have hget:((q3.take i).map (mkP uids mode flags) ++ (m,mv) :: q3.drop i1)[i]'hil = (m,mv):=mid_get _ _ _ i hml hil
  obtain ⟨g,o,rfl,e0,e1,e2,e3⟩:=msg_at ho'.rd hil
  obtain ⟨g',hg'⟩:=ho'.some (by omega)
  cases hg'
  rw [hget,Nat.zero_add] at e0 e1 e2 e3
  simp only at e0 e1 e2 e3 hbm
  obtain ⟨Bm,dm,rfl,hom,hBm⟩:=id hbm
  have ka:Nw w' (w'.alloc (.cells #[i64 m.uid,i64 m.flags,i64 m.date,.slice Bm m.body.length dm] 186)):=(Kp.refl _ _).alloc _
  have hq4:Blk (w'.alloc (.cells #[i64 m.uid,i64 m.flags,i64 m.date,.slice Bm m.body.length dm] 186)) w'.heap.size 186 #[i64 m.uid,i64 m.flags,i64 m.date,.slice Bm m.body.length dm]:=Blk.new _ _ _
  have y0:=hq4.cell 0
  have hxq:Rd (w'.alloc (.cells #[i64 m.uid,i64 m.flags,i64 m.date,.slice Bm m.body.length dm] 186)) X (uids.map i64):=((hx.nw n3)).nw ka
  simp -dsimp [go_sem,f18,hlt',e0,e1,e2,e3,y0]
  refine call (icontains_spec uids m.uid X xc _ hxq hxl) ?_
  rintro v4 w4 ⟨rfl,rfl⟩
  have hoq:=ho'.nw ka
  have hbq:=hb'.nw ka
  have hKq:Kp (blk (some ⟨g,0,none⟩)) w2 (w'.alloc (.cells #[i64 m.uid,i64 m.flags,i64 m.date,.slice Bm m.body.length dm] 186)):=hK.trans (Nw.kp ka _) fun _ _ h => h
  have e1q:=ka.cell_some e1 fun h => h
  obtain ⟨z,hz'⟩:∃ z,z = w'.heap.size:=⟨_,rfl⟩
  have hgz:g < z:=by rw [hz']; exact ho'.lt _ rfl
  rw [← hz'] at y0 hq4
  rw [← hz']
  generalize w'.alloc (.cells #[i64 m.uid,i64 m.flags,i64 m.date,.slice Bm m.body.length dm] 186) = w4 at *
  by_cases hu:m.uid ∈ uids
  ·have hmk:mkP uids mode flags (m,.slice Bm m.body.length dm) = ({ m with flags:=applyF mode m.flags flags },.slice Bm m.body.length dm):=by simp [mkP,mk1,hu]
   simp -dsimp [go_sem,hu]
   have kd:Nw w4 w4.drew:=(Kp.refl _ _).drew
   have x3:w4.cell? ⟨x,3,none⟩ = some (.slice (some ⟨g,0,none⟩) b.L.length d2):=hbq.cell 3
   have z1:w4.cell? ⟨z,1,none⟩ = some (i64 m.flags):=hq4.cell 1
   have x3d:=kd.cell_some x3 fun h => h
   have z1d:=kd.cell_some z1 fun h => h
   have e1d:=kd.cell_some e1q fun h => h
   have g1d:w4.drew.frozen? ⟨g,i * 4 + 1,none⟩ = false:=(hoq.nw kd).frozen _
   have hxg:x + 2 ≤ g:=hA2b g rfl
   refine drawD (.take 0 (.take 1 (.take 2 (.take 3 (.take 4 (.take 5 (.take 6 (.alt 7 (.alt 8 (.take 9 (.alt 10 .done .stop)) .stop) .stop)))))))) 10 (by kernel_rfl) (fun wz => Nw w4 wz) kd ?_
   simp -dsimp [go_sem,x3d,z1d]
   refine ⟨fun wz hz => by simp [hz.cell_some x3 fun h => h],fun wz hz => by simp [hz.cell_some z1 fun h => h],?_⟩
   refine call (apply_spec mode m.flags flags _) ?_
   rintro v5 w5 ⟨rfl,rfl⟩
   simp -dsimp [go_sem,hlt',g1d,e1d]
   refine ⟨kd,?_⟩
   have ks:Kp (At g) w4 (w4.setCell ⟨g,i * 4 + 1,none⟩ (i64 (applyF mode m.flags flags))):=(Kp.refl _ _).setCell_at _ _
   have x36:=ks.drew.cell_some x3 (by show ¬ x = g; omega)
   have z16:=ks.drew.cell_some z1 (by show ¬ z = g; omega)
   have hset:=ow_set (hoq) (i * 4 + 1) (i64 (applyF mode m.flags flags))
   have hqs:=mq_set_flags ((q3.take i).map (mkP uids mode flags) ++ (m,.slice Bm m.body.length dm) :: q3.drop i1) i hil (applyF mode m.flags flags)
   rw [hqs,hget,mid_set _ _ _ _ i hml] at hset
   have hnew:(q3.take i1).map (mkP uids mode flags) = (q3.take i).map (mkP uids mode flags) ++ [({ m with flags:=applyF mode m.flags flags },.slice Bm m.body.length dm)]:=by rw [htk,List.map_append]; simp [hmk]
   rw [← hnew] at hset
   have hgl:i * 4 + 1 < (mq ((q3.take i1).map (mkP uids mode flags) ++ q3.drop i1)).length:=by rw [mq_len,List.length_append,hnew,List.length_append,hml]; simp; omega
   have hg6:(w4.setCell ⟨g,i * 4 + 1,none⟩ (i64 (applyF mode m.flags flags))).drew.cell? ⟨g,i * 4 + 1,none⟩ = some (i64 (applyF mode m.flags flags)):=by
    have hil1:i < ((q3.take i1).map (mkP uids mode flags) ++ q3.drop i1).length:=by rw [hnew,List.length_append,List.length_append,hml]; simp; omega
    obtain ⟨_,_,e,_,t1,_⟩:=msg_at (hset.rd) hil1
    cases e
    have hgt:((q3.take i1).map (mkP uids mode flags) ++ q3.drop i1)[i]'hil1 = ({ m with flags:=applyF mode m.flags flags },.slice Bm m.body.length dm):=by
     simp only [hnew,List.append_assoc,List.singleton_append]
     exact mid_get _ _ _ i hml _
    rw [hgt,Nat.zero_add] at t1
    exact t1
   have hos6:Ow (w4.setCell ⟨g,i * 4 + 1,none⟩ (i64 (applyF mode m.flags flags))).drew 186 4 (some ⟨g,0,none⟩) b.L.length d2 (mq ((q3.take i1).map (mkP uids mode flags) ++ q3.drop i1)):=hset.nw ((Kp.refl _ _).drew)
   have hK6:Kp (blk (some ⟨g,0,none⟩)) w2 (w4.setCell ⟨g,i * 4 + 1,none⟩ (i64 (applyF mode m.flags flags))).drew:=hKq.trans ks.drew fun k _ (e:k = g) => e
   generalize (w4.setCell ⟨g,i * 4 + 1,none⟩ (i64 (applyF mode m.flags flags))).drew = w6 at *
   have kd6:Nw w6 w6.drew:=(Kp.refl _ _).drew
   have x36d:=kd6.cell_some x36 fun h => h
   have z16d:=kd6.cell_some z16 fun h => h
   have hg6d:=kd6.cell_some hg6 fun h => h
   refine draw (.take 0 (.take 1 (.take 2 (.take 3 (.take 4 (.take 5 (.take 6 (.take 7 (.take 8 .done))))))))) (by kernel_rfl) (fun wz => Nw w6 wz) kd6 ?_
   simp -dsimp [go_sem,x36d,z16d,hg6d,hlt']
   refine ⟨fun wz hz => by simp [hz.cell_some x36 fun h => h],fun wz hz => by simp [hz.cell_some hg6 fun h => h],fun wz hz => by simp [hz.cell_some z16 fun h => h],?_⟩
   have hK7:Kp (blk (some ⟨g,0,none⟩)) w2 w6.drew:=hK6.trans (Nw.kp kd6 _) fun _ _ h => h
   have hos7:=hos6.nw kd6
   have hn1:IntKind.i64.wrap ((n:Int) + 1) = ((n + 1:Nat):Int):=by rw [w64 (by omega) (by omega)]; omega
   obtain ⟨n1,hn1'⟩:∃ n1,n1 = n + 1:=⟨_,rfl⟩
   rw [← hn1'] at hn1
   by_cases hch:applyF mode m.flags flags = m.flags
   ·have hch':(applyF mode m.flags flags != m.flags) = false:=by simp [hch]
    simp -dsimp [go_sem,hch',f18,f10,hi1]
    refine ⟨⟨i1,n,rfl,by omega,?_,rfl,hos7,hK7⟩,by simp [intOf]; omega⟩
    rw [hn,htk]; simp [markN,hu,hch]
   ·have hch':(applyF mode m.flags flags != m.flags) = true:=by simp [hch]
    simp -dsimp [go_sem,hch',f18,f10,hi1,hn1]
    refine ⟨⟨i1,n1,rfl,by omega,?_,rfl,hos7,hK7⟩,by simp [intOf]; omega⟩
    rw [hn1',hn,htk]; simp [markN,hu,hch]
  ·have hmk:mkP uids mode flags (m,.slice Bm m.body.length dm) = (m,.slice Bm m.body.length dm):=by simp [mkP,mk1,hu]
   simp -dsimp [go_sem,hu,f18,hi1]
   refine ⟨⟨i1,n,rfl,by omega,?_,f10,?_,hKq⟩,by simp [intOf]; omega⟩
   ·rw [hn,htk]; simp [markN,hu]
   ·rw [htk]
    simpa [hmk] using hoq
 ·obtain rfl:i = q3.length:=by omega
  have hge:¬ q3.length < b.L.length:=by omega
  rw [List.take_length,hq3] at hn
  rw [List.take_length,List.drop_length,List.append_nil] at ho'
  have hfst:(q3.map (mkP uids mode flags)).map Prod.fst = b.L.map (mk1 uids mode flags):=by rw [mkP_fst,hq3]
  have hlL:(b.L.map (mk1 uids mode flags)).length = b.L.length:=List.length_map _
  have hL5:OL w' (.slice A2 b.L.length d2) (b.L.map (mk1 uids mode flags)) (x + 2):=by
   refine ⟨q3.map (mkP uids mode flags),A2,d2,by rw [hlL],hfst,by rw [hlL]; exact ho',hA3,fun p hp => ?_⟩
   obtain ⟨p0,hp0,rfl⟩:=List.mem_map.1 hp
   have h1:BsA w2 p0.2 p0.1.body (x + 2) A2:=hbd3 p0 hp0
   have h2:=h1.kp hK fun k _ _ h => h
   have h3:(mkP uids mode flags p0).1.body = p0.1.body:=by simp only [mkP,mk1]; split <;> rfl
   rw [h3]
   exact h2
  have hb:=hb'
  have hz:=hz'
  have c0:=hb.cell 0
  have c1:=hb.cell 1
  have c2:=hb.cell 2
  have c3:=hb.cell 3
  have z0:=hz.cell 0
  have z1:=hz.cell 1
  have z2:=hz.cell 2
  have z3:=hz.cell 3
  have f0:=hz.frozen 0
  have f1:=hz.frozen 1
  have f2:=hz.frozen 2
  have f3:=hz.frozen 3
  simp -dsimp [go_sem,c0,c1,c2,c3,z0,z1,z2,z3,f0,f1,f2,f3,f18,hge,f10]
  obtain ⟨h1,h2⟩:=ob_out (b:={ b with L:=b.L.map (mk1 uids mode flags) }) hL5 n3 hx'
  exact ⟨⟨_,by rw [← hn],h1⟩,h2⟩
/-! ### A box that may be -/
theorem msgsOk_all:∀ (last next:Int) (l:List Msg),msgsOk last next l = true → ∀ m ∈ l,last < m.uid ∧ m.uid < next ∧ okF m.flags 0 31 = true ∧ okF m.date 0 1073741824 = true ∧ m.body.length ≤ 1200
 | _,_,[],_,m,hm => by cases hm
 | last,next,x :: l,h,m,hm => by
  simp only [msgsOk,Bool.and_eq_true,decide_eq_true_eq] at h
  obtain ⟨⟨⟨⟨⟨h1,h2⟩,h3⟩,h4⟩,h5⟩,h6⟩:=h
  rcases List.mem_cons.1 hm with rfl | hm
  ·exact ⟨h1,h2,h3,h4,h5⟩
  ·have:=msgsOk_all x.uid next l h6 m hm
   exact ⟨by omega,this.2⟩
theorem msgsOk_pw:∀ (last next:Int) (l:List Msg),msgsOk last next l = true → l.Pairwise (fun x y => x.uid < y.uid)
 | _,_,[],_ => List.Pairwise.nil
 | last,next,x :: l,h => by
  simp only [msgsOk,Bool.and_eq_true,decide_eq_true_eq] at h
  exact List.pairwise_cons.2 ⟨fun m hm => (msgsOk_all x.uid next l h.2 m hm).1,msgsOk_pw x.uid next l h.2⟩
structure IsB (b:Bx):Prop where
 len:b.L.length ≤ 24
 all:∀ m ∈ b.L,0 < m.uid ∧ m.uid < b.next ∧ okF m.flags 0 31 = true ∧ okF m.date 0 1073741824 = true ∧ m.body.length ≤ 1200
 pw:b.L.Pairwise (fun x y => x.uid < y.uid)
 next:1 ≤ b.next ∧ b.next ≤ 1048576
 val:1 ≤ b.val ∧ b.val ≤ 1048576
theorem IsB.of {b:Bx} (h:isB b = true):IsB b:=by
 simp only [isB,Bool.and_eq_true,decide_eq_true_eq,okF] at h
 obtain ⟨⟨⟨⟨h1,h2⟩,h3⟩,h4⟩,h5⟩:=h
 exact ⟨h1,msgsOk_all _ _ _ h2,msgsOk_pw _ _ _ h2,h5,h4⟩
end Go.Proofs.YtellahclbhfdiaaGreatDoor
namespace Go.Vc
set_option linter.unusedSimpArgs false
set_option linter.unusedVariables false
set_option maxRecDepth 100000
open Go.Deep Go.ChangeShapes Go.WideShapes Go.ChangeAt Go.RowKit Go.ChangeMaps
/-- A struct's fields: type and place. -/
def flds:TypeDesc → List (TypeId × Nat)
 | .struct fs => fs.toList.map fun f => (f.type,f.offset)
 | _ => []
section
variable {H:Type} {enc:TypeId × Value → H} {P:Program} {W:World} {base:Nat} {spare:Nat → Bool} {held:Bool}
theorem flat_get {α:Type} {cells:α → List Value} {K:Nat} (hK:0 < K):∀ (l:List α),(∀ a ∈ l,(cells a).length = K) → ∀ (j:Nat) (u:Value),(l.flatMap cells)[j]? = some u → ∃ i,∃ hi:i < l.length,∃ r,r < K ∧ j = i * K + r ∧ (cells l[i])[r]? = some u
 | [],_,j,u,h => by simp at h
 | a :: l,hl,j,u,h => by
  have ha:=hl a (List.mem_cons_self ..)
  rw [List.flatMap_cons] at h
  by_cases hj:j < K
  ·rw [List.getElem?_append_left (by omega)] at h
   exact ⟨0,by simp,j,hj,by omega,h⟩
  ·rw [List.getElem?_append_right (by omega),ha] at h
   obtain ⟨i,hi,r,hr,e,hu⟩:=flat_get hK l (fun b hb => hl b (List.mem_cons_of_mem _ hb)) (j - K) u h
   refine ⟨i + 1,by simpa using hi,r,hr,?_,by simpa using hu⟩
   rw [Nat.add_mul]; omega
end
section
variable {H:Type} {enc:TypeId × Value → H} {P:Program} {W:World} {base:Nat} {spare:Nat → Bool} {held:Bool}
theorem trod_flds_z {t:TypeId} {fuel:Nat} {cs:List Value} {x:DataW H × List MemPlace} {l:List (TypeId × Nat)} (hu:(P.underlying t).map flds = some l) (hne:l ≠ []) (hz:Sz P t x.1) (h:DataW.trod enc P W base spare held fuel t cs = some x) :
  cs.length = P.cellsOf t ∧ ∃ n,∀ (i:Nat) (p:TypeId × Nat),l[i]? = some p → ∃ y,DataW.trod enc P W base spare held n p.1 ((cs.drop p.2).take (P.cellsOf p.1)) = some y ∧ Sz P p.1 y.1:=by
 cases hp:P.underlying t with
 | none => rw [hp] at hu; cases hu
 | some d =>
  rw [hp] at hu
  simp only [Option.map_some,Option.some.injEq] at hu
  cases d with
  | struct fs =>
   obtain ⟨xs,n,_,hx,hl,hlen,hf⟩:=DataW.trod_struct hp h
   refine ⟨hl,n,fun i p hi => ?_⟩
   subst hu
   simp only [flds,List.getElem?_map,Array.getElem?_toList,Option.map_eq_some_iff] at hi
   obtain ⟨f,hfi,rfl⟩:=hi
   have:=hf i f hfi
   have hil:i < xs.length:=by rw [hlen]; exact (Array.getElem?_eq_some_iff.1 hfi).1
   rw [List.getElem?_eq_getElem hil] at this
   refine ⟨_,this,fun k hk => hz k ?_⟩
   rw [hx,DataW.weights]
   simp only [hp]
   exact DataW.weights_mem_each (j:=i) (t:=f.type) (d:=xs[i].1) (by simp [hfi]) (by simp [hil]) k hk
  | _ => exact absurd hu.symm hne
theorem trod_structs_z {α:Type} {t e:TypeId} {fuel K:Nat} {cs:List Value} {x:DataW H × List MemPlace} (cells:α → List Value) (G:α → Prop) (ht:P.underlying t = some (.slice e)) (ct:P.cellsOf e = K) (hK:0 < K) (hz:Sz P t x.1)
  (he:∀ n cs y,Sz P e y.1 → DataW.trod enc P W base spare held n e cs = some y → ∃ a:α,cs = cells a ∧ (cells a).length = K ∧ G a) (h:DataW.trod enc P W base spare held fuel t cs = some x) :
  ∃ (A:Option Addr) (c:Nat) (l:List α),cs = [.slice A l.length c] ∧ Rd W A (l.flatMap cells) ∧ l.length ≤ c ∧ c ≤ maxLen ∧ ∀ a ∈ l,G a:=by
 rcases open_slice ht h with ⟨rfl,_⟩ | ⟨a,len,cap,m,n',D,Pl,rfl,_,h1,h2,h3,rfl,h4⟩
 ·exact ⟨none,0,[],rfl,Rd.nil _ _,Nat.le_refl _,Nat.zero_le _,fun z h => by cases h⟩
 ·have hlen:len ≤ m:=by rw [h3]; split <;> omega
  have each:∀ i,i < len → ∃ x:α,((cells x).length = K ∧ G x) ∧ ∀ j u,(cells x)[j]? = some u → W.cell? ((a.add (i * K)).add j) = some u:=fun i hi' => by
   obtain ⟨cs',hc',ht'⟩:=h4 i (by omega)
   have hzi:=sz_elem hz ht (d:=D i) (List.mem_map.2 ⟨i,by simpa using hi',rfl⟩)
   obtain ⟨x,rfl,hl,hg⟩:=he _ _ _ hzi ht'
   rw [ct] at hc'
   refine ⟨x,⟨hl,hg⟩,fun j u hj => ?_⟩
   have hj5:j < K:=by rw [← hl]; exact (List.getElem?_eq_some_iff.1 hj).1
   rw [(World.cells?_some hc').2.2 j hj5,hj]
  by_cases h0:len = 0
  ·subst h0
   exact ⟨some a,cap,[],rfl,Rd.nil _ _,Nat.zero_le _,h2,fun z h => by cases h⟩
  obtain ⟨x0,⟨hx0l,hx0g⟩,hx0⟩:=each 0 (by omega)
  have hspot:a.spot = none:=by
   have h0:=hx0 0 _ (List.getElem?_eq_getElem (by omega))
   obtain ⟨b,o,s⟩:=a
   cases s with
   | none => rfl
   | some s =>
    simp [World.cell?,Addr.add] at h0
    split at h0 <;> cases h0
  let R:Nat → α:=fun i => if hi:i < len then (each i hi).choose else x0
  have hR:∀ i (hi:i < len),R i = (each i hi).choose:=fun i hi => dif_pos hi
  obtain ⟨b,o,s⟩:=a
  obtain rfl:s = none:=hspot
  have hRl:∀ y ∈ (List.range len).map R,(cells y).length = K ∧ G y:=fun y hy => by
   obtain ⟨i,hi,rfl⟩:=List.mem_map.1 hy
   have hi:=List.mem_range.1 hi
   rw [hR i hi]
   exact (each i hi).choose_spec.1
  refine ⟨some ⟨b,o,none⟩,cap,(List.range len).map R,by simp,fun j u hj => ?_,by simpa using h1,h2,fun y hy => (hRl y hy).2⟩
  obtain ⟨i,hi,r,hr,e,hu⟩:=flat_get hK _ (fun y hy => (hRl y hy).1) j u hj
  have hil:i < len:=by simpa using hi
  have e1:((List.range len).map R)[i] = (each i hil).choose:=by
   simp only [List.getElem_map,List.getElem_range]
   exact hR i hil
  rw [e1] at hu
  have:=(each i hil).choose_spec.2 r u hu
  rw [Addr.add_lit,Addr.add_lit] at this
  refine ⟨b,o,rfl,?_⟩
  rw [e,← Nat.add_assoc]
  exact this
end
end Go.Vc
namespace Go.Proofs.YtellahclbhfdiaaGreatDoor
set_option linter.unusedSimpArgs false
set_option linter.unusedVariables false
set_option maxRecDepth 100000
open Go.Vc Go.Deep Go.ChangeShapes Go.WideShapes Go.ChangeAt Go.RowKit Go.ChangeMaps
section
variable {H:Type} {enc:TypeId × Value → H} {P:Program} {W:World} {base:Nat} {spare:Nat → Bool} {held:Bool}
def I64 (n:Int):Prop:=-9223372036854775808 ≤ n ∧ n ≤ 9223372036854775807
end
open Go.ChangeShapes Go.WideShapes Go.ChangeAt Go.RowKit Go.Vc
section
variable {H:Type} {enc:TypeId × Value → H} {P:Program} {W:World} {base:Nat} {spare:Nat → Bool} {held:Bool}
end
/-- An act. -/
structure Ac where
 kind:Int
 flags:Int
 date:Int
 mode:Int
 uids:List Int
 body:List UInt8
def RdI (w:World) (v:Value) (l:List Int):Prop:=∃ A c,v = .slice A l.length c ∧ Rd w A (l.map i64) ∧ l.length ≤ c
theorem RdI.nw {w w':World} {v:Value} {l:List Int} (h:RdI w v l) (k:Nw w w'):RdI w' v l:=by
 obtain ⟨A,c,rfl,hr,hc⟩:=h
 exact ⟨A,c,rfl,hr.nw k,hc⟩
/-- An act as an argument has it. -/
def ActG (W:World) (p:Ac × Value × Value):Prop:=RdI W p.2.1 p.1.uids ∧ RdB W p.2.2 p.1.body (fun _ => False) ∧ p.1.uids.length ≤ 140737488355328 ∧ p.1.body.length ≤ 140737488355328 ∧ I64 p.1.kind ∧ I64 p.1.flags ∧ I64 p.1.date ∧ I64 p.1.mode
theorem ActG.nw {w w':World} {p:Ac × Value × Value} (h:ActG w p) (k:Nw w w'):ActG w' p:=⟨h.1.nw k,h.2.1.nw k,h.2.2⟩
section
variable {H:Type} {enc:TypeId × Value → H} {P:Program} {W:World} {base:Nat} {spare:Nat → Bool} {held:Bool}
end
set_option maxHeartbeats 2000000
open Go.Vc Go.RowKit
theorem msgsOk_of:∀ (last next:Int) (l:List Msg),(∀ m ∈ l,last < m.uid ∧ m.uid < next ∧ okF m.flags 0 31 = true ∧ okF m.date 0 1073741824 = true ∧ m.body.length ≤ 1200) → l.Pairwise (fun x y => x.uid < y.uid) → msgsOk last next l = true
 | _,_,[],_,_ => rfl
 | last,next,x :: l,h,hp => by
  obtain ⟨h1,h2,h3,h4,h5⟩:=h x (List.mem_cons_self ..)
  have hp:=List.pairwise_cons.1 hp
  have ih:=msgsOk_of x.uid next l (fun m hm => ⟨hp.1 m hm,(h m (List.mem_cons_of_mem _ hm)).2⟩) hp.2
  simp [msgsOk,h1,h2,h3,h4,h5,ih]
theorem IsB.is {b:Bx} (h:IsB b) (hn:nameOk b.name = true):isB b = true:=by
 obtain ⟨h1,h2,h3,⟨h4,h4'⟩,⟨h5,h5'⟩⟩:=h
 have:=msgsOk_of 0 b.next b.L h2 h3
 simp [isB,this,h1,h4,h4',h5,h5',okF,hn]
theorem IsB.add {b:Bx} (h:IsB b) (flags date:Int) (body:List UInt8):IsB (addB b flags date body).1:=by
 unfold addB
 by_cases h1:(okF flags 0 31 && okF date 0 1073741824) = false
 ·rw [if_pos h1]; exact h
 ·rw [if_neg h1]
  by_cases h2:1200 < body.length
  ·rw [if_pos h2]; exact h
  ·rw [if_neg h2]
   by_cases h3:24 ≤ b.L.length
   ·rw [if_pos h3]; exact h
   ·rw [if_neg h3]
    by_cases h4:1048576 ≤ b.next
    ·rw [if_pos h4]; exact h
    ·rw [if_neg h4]
     obtain ⟨k1,k2,k3,k4,k5⟩:=h
     simp only [Bool.and_eq_false_iff,not_or,Bool.not_eq_false] at h1
     refine ⟨by simp; omega,fun m hm => ?_,List.pairwise_append.2 ⟨k3,by simp,fun x hx y hy => ?_⟩,by simp only; omega,k5⟩
     ·rcases List.mem_append.1 hm with hm | hm
      ·have:=k2 m hm
       exact ⟨this.1,by have:=this.2.1; simp only; omega,this.2.2⟩
      ·obtain rfl:=List.mem_singleton.1 hm
       exact ⟨by simp only; omega,by simp only; omega,h1.1,h1.2,by simp only; omega⟩
     ·obtain rfl:=List.mem_singleton.1 hy
      exact (k2 x hx).2.1
theorem addB_name (b:Bx) (flags date:Int) (body:List UInt8):(addB b flags date body).1.name = b.name ∧ (addB b flags date body).1.val = b.val:=by
 unfold addB
 repeat' (first | exact ⟨rfl,rfl⟩ | split)
theorem IsB.stay {b:Bx} (h:IsB b) (uids:List Int):IsB { b with L:=stayB uids b.L }:=by
 obtain ⟨h1,h2,h3,h4,h5⟩:=h
 exact ⟨Nat.le_trans (stay_len uids b.L) h1,fun m hm => h2 m (List.mem_filter.1 hm).1,h3.filter _,h4,h5⟩
theorem IsB.new (nm:ByteArray) (n:Int) (hn:1 ≤ n ∧ n ≤ 1048576):IsB ⟨nm,n,1,[]⟩:=⟨by simp,by simp,List.Pairwise.nil,by simp,hn⟩
/-- A Reader at block g: what is left, whether it erred; its row lies outside S. -/
def Rdr (w:World) (g:Nat) (l:List UInt8) (bad:Bool) (F:Nat → Prop):Prop :=
 ∃ A c,Blk w g 153 #[.slice A l.length c,.bool bad] ∧ l.length ≤ c ∧ c ≤ maxLen ∧ Rd w A (l.map u8) ∧ Off A (At g) ∧ (bad = true → l = []) ∧ (∀ k,k = g ∨ blk A k → F k) ∧ (∀ k,F k → k < w.heap.size)
theorem Rdr.kp_ {S:Nat → Prop} {w w':World} {g:Nat} {l:List UInt8} {bad:Bool} {F:Nat → Prop} (h:Rdr w g l bad F) (k:Kp S w w') (hd:∀ i,F i → ¬ S i):Rdr w' g l bad F:=by
 obtain ⟨A,c,hb,h1,h2,hr,hg,h3,hF,hFl⟩:=h
 exact ⟨A,c,hb.kp k (hd _ (hF _ (.inl rfl))),h1,h2,hr.kp k ((Off.of_blk fun i hi => hd _ (hF _ (.inr hi))).l _),hg,h3,hF,fun i hi => Nat.lt_of_lt_of_le (hFl i hi) k.size⟩
theorem Rdr.nw {w w':World} {g:Nat} {l:List UInt8} {bad:Bool} {F:Nat → Prop} (h:Rdr w g l bad F) (k:Nw w w'):Rdr w' g l bad F:=h.kp_ k fun _ _ h => h
theorem Rdr.in_ {w:World} {g:Nat} {l:List UInt8} {bad:Bool} {F:Nat → Prop} (h:Rdr w g l bad F):F g:=by
 obtain ⟨A,c,hb,h1,h2,hr,hg,h3,hF,hFl⟩:=h
 exact hF _ (.inl rfl)
theorem good_spec (g:Nat) (l:List UInt8) (bad:Bool) (F:Nat → Prop) (w:World) (h:Rdr w g l bad F) :
  Cal Tryz.prog 41 #[.pointer (some ⟨g,0,none⟩)] w fun v w' => v = .bool (!bad) ∧ w = w':=by
 obtain ⟨A,c,hb,_⟩:=h
 have h1:=hb.cell 1
 refine enter Tryz.mixed Tryz.func41 rfl (by kernel_rfl) ?_
 simp -dsimp [go_sem,h1]
theorem bad_spec (g:Nat) (l:List UInt8) (bad:Bool) (F:Nat → Prop) (w:World) (h:Rdr w g l bad F) :
  Cal Tryz.prog 81 #[.pointer (some ⟨g,0,none⟩)] w fun v w' => v = .tuple #[] ∧ Rdr w' g [] true F ∧ Kp (At g) w w':=by
 obtain ⟨A,c,hb,hc,hcm,hr,ho,hbad,hF,hFl⟩:=h
 have h0:=hb.cell 0
 have h1:=hb.cell 1
 have f0:=hb.frozen 0
 have f1:=hb.frozen 1
 refine enter Tryz.mixed Tryz.func81 rfl (by kernel_rfl) ?_
 simp -dsimp [go_sem,h0,h1,f0,f1]
 refine ⟨⟨none,0,?_,Nat.le_refl _,by simp,Rd.nil _ _,by simp [Off],by simp,?_⟩,?_⟩
 ·simpa using (hb.set 0 _).set 1 _
 ·constructor
  ·rintro k (rfl | h)
   ·exact hF _ (.inl rfl)
   ·exact h.elim
  ·simpa using hFl
 ·exact ((Kp.refl _ w).setCell_at _ _).setCell_at _ _
theorem whole_spec (g:Nat) (l:List UInt8) (bad:Bool) (F:Nat → Prop) (w:World) (h:Rdr w g l bad F) :
  Cal Tryz.prog 43 #[.pointer (some ⟨g,0,none⟩)] w fun v w' => v = .bool (!bad && l.isEmpty) ∧ w = w':=by
 obtain ⟨A,c,hb,_⟩:=id h
 have h0:=hb.cell 0
 refine enter Tryz.mixed Tryz.func43 rfl (by kernel_rfl) ?_
 simp -dsimp [go_sem]
 refine call (good_spec g l bad F w h) ?_
 rintro v w' ⟨rfl,rfl⟩
 simp -dsimp [go_sem]
 refine cond_nb (fun hb => ?_) (fun hb => ?_)
 ·subst hb
  simp -dsimp [go_sem,h0]
  cases l <;> simp
  omega
 ·subst hb
  simp -dsimp [go_sem]
theorem newReader_spec (A:Option Addr) (c:Nat) (l:List UInt8) (w:World) (hr:Rd w A (l.map u8)) (hl:l.length ≤ 140737488355328) :
  Cal Tryz.prog 38 #[.slice A l.length c] w fun v w' => ∃ g,v = .pointer (some ⟨g,0,none⟩) ∧ w.heap.size ≤ g ∧ (∃ F,Rdr w' g l false F ∧ ∀ k,F k → w.heap.size ≤ k ∧ k < w'.heap.size) ∧ Nw w w':=by
 refine enter Tryz.mixed Tryz.func38 rfl (by kernel_rfl) ?_
 simp -dsimp [go_sem]
 refine call (clone_spec A c l w hr hl) ?_
 rintro v w' ⟨⟨A',c',rfl,ho,hf⟩,hk⟩
 simp -dsimp [go_sem]
 simp [go_sem]
 refine ⟨hk.size,⟨fun k => k = w'.heap.size ∨ blk A' k,⟨A',c',Blk.new _ _ _,ho.2.1,ho.2.2.1,ho.rd.nw ((Kp.refl _ _).alloc _),?_,by simp,fun k h => h,?_⟩,?_⟩,hk.alloc _⟩
 ·rintro a rfl
  have:=ho.lt _ rfl
  simp; omega
 ·rintro k (rfl | h)
  ·simp
  ·cases A' with
   | none => exact h.elim
   | some a =>
    have:=ho.lt _ rfl
    simp [blk] at h
    simp; omega
 ·rintro k (rfl | h)
  ·exact ⟨hk.size,by omega⟩
  ·cases A' with
   | none => exact h.elim
   | some a =>
    have:=ho.lt _ rfl
    have:=hf _ rfl
    simp [blk] at h
    omega
end Go.Proofs.YtellahclbhfdiaaGreatDoor
