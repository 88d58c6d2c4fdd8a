/-
  A store asked: Users, Boxes, Get walked. By the session itself. Changes handed in: one, rows of them, acts with them. By the session itself. How heavy a change is; StoreOfNothing walked. By the session itself. All that a store tells, as one text: state walked. By the session itself.
-/
import Derived.Test.YtellahclbhfdiaaGreatDoorZ37
import Derived.Test.YtellahclbhfdiaaGreatDoorZ05
import Derived.Test.YtellahclbhfdiaaGreatDoorZ07
import Derived.Test.YtellahclbhfdiaaGreatDoorZ23
import Derived.Test.YtellahclbhfdiaaGreatDoorZ10
namespace Go.Proofs.YtellahclbhfdiaaGreatDoor
set_option linter.unusedSimpArgs false
set_option linter.unusedVariables false
set_option maxRecDepth 100000
set_option maxHeartbeats 2000000
open Go.Vc Go.RowKit
/-- The names of a user's boxes; a user's box. -/
def bxsL (T:Stt) (n:Nm):List Nm:=match tLook T.us n with | none => [] | some u => keysA u.bx
def getB (T:Stt) (n m:Nm):Option Bx:=match tLook T.us n with | none => none | some u => tLook u.bx m
/-- A row of names, new. -/
def NmsR (w w':World) (v:Value) (l:List Nm):Prop:=∃ A c,v = .slice A l.length c ∧ Rd w' A (l.map fun s => str s) ∧ l.length ≤ c ∧ ∀ a,A = some a → w.heap.size ≤ a.block
section
variable {w0 w:World} {s g l t:Nat} {S:Sto} {U E:Nat → Prop}
theorem Sm.users (h:Sm w0 w s g l t S U E) (ok:S.T.Ok):Cal Tryz.prog 20 #[.pointer (some ⟨s,0,none⟩)] w fun v w' => Nw w w' ∧ NmsR w w' v (keysA S.T.us):=by
 obtain ⟨F,G,FS,V,h1,h2,h3,h4,h5⟩:=h
 obtain ⟨r,ptr,rb,vb,Fs,hM⟩:=h1.st
 have s1:=h1.c1
 have t1:=hM.blk.cell 1
 have hl4:=ok.len
 refine enter Tryz.mixed Tryz.func20 rfl (by kernel_rfl) ?_
 simp -dsimp [go_sem,s1,t1]
 refine call (keysU_spec r (Mu ptr S.T.us) (keysA S.T.us) w hM.mp (keysA_lt ok.srt) (Mu_some ptr S.T.us) (by rw [keysA_len]; omega)) ?_
 rintro v w2 ⟨k2,A,ca,rfl,hr,hc,hA⟩
 simp -dsimp [go_sem]
 exact ⟨k2,A,ca,rfl,hr,hc,hA⟩
theorem Sm.boxes (h:Sm w0 w s g l t S U E) (ok:S.T.Ok) (n:Nm):Cal Tryz.prog 61 #[.pointer (some ⟨s,0,none⟩),str n] w fun v w' => Nw w w' ∧ NmsR w w' v (bxsL S.T n):=by
 obtain ⟨F,G,FS,V,h1,h2,h3,h4,h5⟩:=h
 obtain ⟨r,ptr,rb,vb,Fs,hM⟩:=h1.st
 refine enter Tryz.mixed Tryz.func61 rfl (by kernel_rfl) ?_
 simp -dsimp [go_sem]
 refine call (user_spec h1.blk hM n) ?_
 rintro v w' ⟨rfl,rfl⟩
 cases hu:tLook S.T.us n with
 | none =>
  rw [show Mu ptr S.T.us n = none by simp [Mu,hu],show bxsL S.T n = [] by unfold bxsL; rw [hu]]
  simp -dsimp [go_sem]
  exact ⟨Kp.refl _ _,none,0,rfl,Rd.nil _ _,Nat.le_refl _,by simp⟩
 | some u =>
  rw [show Mu ptr S.T.us n = some (.pointer (some ⟨ptr n,0,none⟩)) by simp [Mu,hu],show bxsL S.T n = keysA u.bx by unfold bxsL; rw [hu]]
  have hUO:=(ok.us _ _ hu).2
  obtain ⟨hU,_⟩:=hM.us _ _ hu
  have p1:=hU.blk.cell 1
  have hl:=hUO.len
  simp -dsimp [go_sem,p1]
  refine call (keysB_spec (rb n) (Mb (vb n) u.bx) (keysA u.bx) w' hU.mp (keysA_lt hUO.srt) (Mb_some (vb n) u.bx) (by rw [keysA_len]; omega)) ?_
  rintro v w2 ⟨k2,A,ca,rfl,hr,hc,hA⟩
  simp -dsimp [go_sem]
  exact ⟨k2,A,ca,rfl,hr,hc,hA⟩
/-- What Get hands back. -/
def GetR (w w':World) (v:Value) (o:Option Bx):Prop:=∃ b bv,v = .tuple #[bv,.bool o.isSome] ∧ OB w' bv b w.heap.size ∧ (o = none ∨ o = some b)
theorem OB.zero (w:World) (B:Nat):OB w (.agg #[.string ⟨#[]⟩,i64 0,i64 0,.slice none 0 0]) ⟨⟨#[]⟩,0,0,[]⟩ B:=⟨_,rfl,OL.nil _ _⟩
theorem Sm.get (h:Sm w0 w s g l t S U E) (ok:S.T.Ok) (n m:Nm):Cal Tryz.prog 62 #[.pointer (some ⟨s,0,none⟩),str n,str m] w fun v w' => Nw w w' ∧ GetR w w' v (getB S.T n m):=by
 obtain ⟨F,G,FS,V,h1,h2,h3,h4,h5⟩:=h
 obtain ⟨r,ptr,rb,vb,Fs,hM⟩:=h1.st
 refine enter Tryz.mixed Tryz.func62 rfl (by kernel_rfl) ?_
 simp -dsimp [go_sem]
 have k0:Nw w (w.alloc (.cells #[.string ⟨#[]⟩,i64 0,i64 0,.slice none 0 0] 111)):=(Kp.refl _ _).alloc _
 have hz0:=Blk.new w 111 #[.string ⟨#[]⟩,i64 0,i64 0,.slice none 0 0]
 obtain ⟨zz,hzz⟩:∃ zz,zz = w.heap.size:=⟨_,rfl⟩
 rw [← hzz] at hz0 ⊢
 have hM0:=hM.nw k0
 have hb0:=h1.blk.nw k0
 have hzl:=hz0.lt
 generalize w.alloc (.cells #[.string ⟨#[]⟩,i64 0,i64 0,.slice none 0 0] 111) = wa at *
 refine call (user_spec hb0 hM0 n) ?_
 rintro v wA ⟨rfl,rfl⟩
 cases hu:tLook S.T.us n with
 | none =>
  rw [show Mu ptr S.T.us n = none by simp [Mu,hu],show getB S.T n m = none by unfold getB; rw [hu]]
  have z0:=(hz0).cell 0
  have z1:=(hz0).cell 1
  have z2:=(hz0).cell 2
  have z3:=(hz0).cell 3
  have zf0:=(hz0).frozen 0
  have zf1:=(hz0).frozen 1
  have zf2:=(hz0).frozen 2
  have zf3:=(hz0).frozen 3
  simp -dsimp [go_sem]
  simp [go_sem,z0,z1,z2,z3,zf0,zf1,zf2,zf3]
  exact ⟨k0.at_ (kp_set4 wA zz _ _ _ _) fun k (e:k = zz) => by omega,_,_,rfl,OB.zero _ _,.inl rfl⟩
 | some u =>
  rw [show Mu ptr S.T.us n = some (.pointer (some ⟨ptr n,0,none⟩)) by simp [Mu,hu]]
  have hUO:=(ok.us _ _ hu).2
  obtain ⟨hU,_⟩:=hM0.us _ _ hu
  have p1:=hU.blk.cell 1
  have hlz:=lookup_mp KL hmb zeroBox hU.mp m true
  rw [show getB S.T n m = tLook u.bx m by unfold getB; rw [hu]]
  obtain ⟨b,v0,hv0,hR0,hbi⟩:∃ b v0,(Instr.lookup 156 (.map (some (rb n))) (str m) true).run Tryz.prog wA = .ok (.tuple #[v0,.bool (tLook u.bx m).isSome]) wA ∧ RB wA v0 b (fun _ => False) ∧ ((tLook u.bx m = some b ∧ isB b = true) ∨ (tLook u.bx m = none ∧ b = ⟨⟨#[]⟩,0,0,[]⟩)):=by
   cases hb:tLook u.bx m with
   | none =>
    rw [show Mb (vb n) u.bx m = none by simp [Mb,hb]] at hlz
    exact ⟨⟨⟨#[]⟩,0,0,[]⟩,_,hlz,⟨none,0,[],rfl,rfl,Nat.le_refl _,Rd.nil _ _,fun _ _ _ h => h,fun _ h => by cases h⟩,.inr ⟨rfl,rfl⟩⟩
   | some b =>
    rw [show Mb (vb n) u.bx m = some (vb n m) by simp [Mb,hb]] at hlz
    exact ⟨b,_,hlz,(hU.bx _ _ hb).any,.inl ⟨rfl,(hUO.bx _ _ hb).2⟩⟩
  obtain ⟨A,c,q,rfl,hq,hc,hr,ho,hb⟩:=hR0
  have hql:q.length = b.L.length:=by rw [← hq,List.length_map]
  have hl:b.L.length ≤ 1000000:=by
   rcases hbi with ⟨_,h⟩ | ⟨_,rfl⟩
   ·have:=(IsB.of h).len; omega
   ·simp
  have hbl:∀ m ∈ b.L,m.body.length ≤ 1000000000:=by
   rcases hbi with ⟨_,h⟩ | ⟨_,rfl⟩
   ·intro m hm; have:=((IsB.of h).all m hm).2.2.2.2; omega
   ·simp
  simp -dsimp [go_sem,p1,hv0]
  have k1:Nw wA (wA.alloc (.cells #[.string b.name,i64 b.val,i64 b.next,.slice A b.L.length c] 111)):=(Kp.refl _ _).alloc _
  have hB1:=Blk.new wA 111 #[.string b.name,i64 b.val,i64 b.next,.slice A b.L.length c]
  obtain ⟨x,hx⟩:∃ x,x = wA.heap.size:=⟨_,rfl⟩
  rw [← hx] at hB1 ⊢
  have hB2:=hz0.nw k1
  have hsz:(wA.alloc (.cells #[.string b.name,i64 b.val,i64 b.next,.slice A b.L.length c] 111)).heap.size = x + 1:=by simp [hx]
  have n0:=k0.nw k1
  refine call (cloneM_spec A b.L.length c q (fun _ => False) _ hql.symm (hr.nw k1) (fun p hp => (hb p hp).nw k1) (by omega)) ?_
  rintro v w1 ⟨hG,hk1⟩
  rw [hsz] at hG
  generalize wA.alloc (.cells #[.string b.name,i64 b.val,i64 b.next,.slice A b.L.length c] 111) = wb at *
  have hb1:=hB1.nw hk1
  have hb2:=hB2.nw hk1
  have n1:=n0.nw hk1
  have f13:=hb1.frozen 3
  have c13:=hb1.cell 3
  obtain ⟨A',c',rfl,ho',hA'⟩:=hG
  have hs1:Kp (At x) w1 (w1.setCell ⟨x,3,none⟩ (.slice A' b.L.length c')):=(Kp.refl _ _).setCell_at _ _
  have hb1':Blk (w1.setCell ⟨x,3,none⟩ (.slice A' b.L.length c')) x 111 #[.string b.name,i64 b.val,i64 b.next,.slice A' b.L.length c']:=by simpa using hb1.set 3 (.slice A' b.L.length c')
  have hb2':=hb2.kp hs1 (by show ¬ zz = x; omega)
  have n2:Nw wA (w1.setCell ⟨x,3,none⟩ (.slice A' b.L.length c')):=(k1.nw hk1).at_ hs1 fun i (e:i = x) => by omega
  have ho2:=ho'.kp hs1 (fun a ha (e:a.block = x) => by have:=hA' a ha; omega)
  have hlt1:=ho'.lt
  have hsz1:w1.heap.size ≤ (w1.setCell ⟨x,3,none⟩ (.slice A' b.L.length c')).heap.size:=hs1.size
  have c13':=hb1'.cell 3
  have hrw:=n0
  simp -dsimp [go_sem,c13,f13,c13']
  generalize w1.setCell ⟨x,3,none⟩ (.slice A' b.L.length c') = w2 at *
  obtain ⟨M,hM⟩:∃ M,M = w1.heap.size:=⟨_,rfl⟩
  rw [← hM] at hsz1 hlt1
  have hxM:x + 1 ≤ M:=by rw [hM]; have:=hk1.size; omega
  clear hs1 hb1 hb2 c13 f13 hk1 n1 ho'
  refine loop [11,12,35,36,37,38,39,40,41,42,43,44,45,46,47,48] (by kernel_rfl)
   (fun f w' => Box1 (fun a w' => ∃ qd:MQ,a = i64 qd.length ∧ qd.length ≤ q.length ∧ (qd ++ q.drop qd.length).map Prod.fst = b.L ∧ Blk w' x 111 #[.string b.name,i64 b.val,i64 b.next,.slice A' b.L.length c'] ∧ Blk w' zz 111 #[.string ⟨#[]⟩,i64 0,i64 0,.slice none 0 0] ∧
    Ow w' 186 4 A' b.L.length c' (mq (qd ++ q.drop qd.length)) ∧ (∀ p ∈ qd,Bs w' p.2 p.1.body M) ∧ Nw wA w' ∧ M ≤ w'.heap.size) (f 35) w') (fun f _ => b.L.length - (intOf (f 35)).toNat)
   ⟨[],rfl,by simp,by simpa using hq,hb1',hb2',by simpa using ho2,by simp,n2,hsz1⟩ ?_
  rintro f w3 ⟨qd,f35,hqd,hqf,hb3,hz3,ho3,hd3,n3,hM3⟩
  by_cases hlt:qd.length < q.length
  ·have hlt':qd.length < b.L.length:=by omega
   have hi1:IntKind.i64.wrap ((qd.length:Int) + 1) = ((qd.length + 1:Nat):Int):=by rw [w64 (by omega) (by omega)]; omega
   have hdr:q.drop qd.length = q[qd.length] :: q.drop (qd.length + 1):=List.drop_eq_getElem_cons hlt
   have hmem:q[qd.length] ∈ q:=List.getElem_mem hlt
   have hpb:=hb _ hmem
   have hbm:q[qd.length].1.body.length ≤ 1000000000:=hbl _ (by rw [← hq]; exact List.mem_map_of_mem hmem)
   rw [hdr] at ho3 hqf
   generalize q[qd.length] = m at *
   obtain ⟨mm,mv⟩:=m
   have hat:=mq_at (qd ++ (mm,mv) :: q.drop (qd.length + 1)) qd.length (by simp)
   have hget:(qd ++ (mm,mv) :: q.drop (qd.length + 1))[qd.length]'(by simp) = (mm,mv):=by simp
   rw [hget] at hat
   replace hpb:RdB wA mv mm.body (fun _ => False):=hpb
   replace hbm:mm.body.length ≤ 1000000000:=hbm
   obtain ⟨a0,a1,a2,a3⟩:=hat
   simp only at a0 a1 a2 a3
   obtain ⟨g,o,rfl,d0⟩:=ho3.rd _ _ a0
   obtain ⟨_,_,e1,d1⟩:=ho3.rd _ _ a1
   obtain ⟨_,_,e2,d2⟩:=ho3.rd _ _ a2
   obtain ⟨_,_,e3,d3⟩:=ho3.rd _ _ a3
   cases e1; cases e2; cases e3
   obtain ⟨g',hg'⟩:=ho3.some (by omega)
   cases hg'
   rw [Nat.zero_add] at d0 d1 d2 d3
   obtain ⟨i,hi⟩:∃ i,i = qd.length:=⟨_,rfl⟩
   obtain ⟨i1,hi1'⟩:∃ i1,i1 = qd.length + 1:=⟨_,rfl⟩
   rw [← hi1'] at hi1
   rw [← hi] at f35 hlt' hi1 d0 d1 d2 d3
   obtain ⟨B,d,rfl,hrB,hoB,hd⟩:=hpb
   have k3:Nw w3 (w3.alloc (.cells #[i64 mm.uid,i64 mm.flags,i64 mm.date,.slice B mm.body.length d] 186)):=(Kp.refl _ _).alloc _
   have hq4:Blk (w3.alloc (.cells #[i64 mm.uid,i64 mm.flags,i64 mm.date,.slice B mm.body.length d] 186)) w3.heap.size 186 #[i64 mm.uid,i64 mm.flags,i64 mm.date,.slice B mm.body.length d]:=Blk.new _ _ _
   obtain ⟨z,hz⟩:∃ z,z = w3.heap.size:=⟨_,rfl⟩
   rw [← hz] at hq4
   simp -dsimp [go_sem,f35,hlt',d0,d1,d2,d3]
   rw [← hz]
   have hb4:=hb3.nw k3
   have hz4:=hz3.nw k3
   have ho4:=ho3.nw k3
   have n4:=n3.nw k3
   have hs4:z + 1 ≤ (w3.alloc (.cells #[i64 mm.uid,i64 mm.flags,i64 mm.date,.slice B mm.body.length d] 186)).heap.size:=hq4.lt
   have hd4:∀ p ∈ qd,Bs (w3.alloc (.cells #[i64 mm.uid,i64 mm.flags,i64 mm.date,.slice B mm.body.length d] 186)) p.2 p.1.body M:=fun p hp => (hd3 p hp).nw k3
   generalize w3.alloc (.cells #[i64 mm.uid,i64 mm.flags,i64 mm.date,.slice B mm.body.length d] 186) = w4 at *
   have kd:Nw w4 w4.drew:=(Kp.refl _ _).drew
   have x3:w4.cell? ⟨x,3,none⟩ = some (.slice (some ⟨g,0,none⟩) b.L.length c'):=hb4.cell 3
   have z3:w4.cell? ⟨z,3,none⟩ = some (.slice B mm.body.length d):=hq4.cell 3
   have x3d:=kd.cell_some x3 fun h => h
   have z3d:=kd.cell_some z3 fun h => h
   refine drawD (.take 0 (.take 1 (.take 2 (.take 3 (.take 4 (.alt 5 (.alt 6 (.take 7 (.alt 8 .done .stop)) .stop) .stop)))))) 8 (by kernel_rfl) (fun wz => Nw w4 wz) kd ?_
   simp -dsimp [go_sem,x3d,z3d]
   refine ⟨fun wz hz => by simp [hz.cell_some x3 fun h => h],fun wz hz => by simp [hz.cell_some z3 fun h => h],?_⟩
   refine call (clone_spec B d mm.body _ (((hrB.nw n4).nw kd)) (by omega)) ?_
   rintro v5 w5 ⟨hB5,hk5⟩
   have k45:=kd.nw hk5
   have g3:w5.frozen? ⟨g,i * 4 + 3,none⟩ = false:=(ho4.nw k45).frozen _
   obtain ⟨B5,d5,rfl,ho5,hA5⟩:=hB5
   have e3:=(k3.nw k45).cell_some d3 fun h => h
   simp -dsimp [go_sem,hlt',g3,e3]
   refine ⟨k45,?_⟩
   have ks:Kp (At g) w5 (w5.setCell ⟨g,i * 4 + 3,none⟩ (.slice B5 mm.body.length d5)):=(Kp.refl _ _).setCell_at _ _
   have hgx:x + 1 ≤ g:=hA' _ rfl
   have hgM:g < M:=hlt1 _ rfl
   have hsz5:M ≤ w5.heap.size:=Nat.le_trans (by omega) k45.size
   have hset:=ow_set (ho4.nw k45) (i * 4 + 3) (.slice B5 mm.body.length d5)
   have hqs:=mq_set_body (qd ++ (mm,.slice B mm.body.length d) :: q.drop (qd.length + 1)) qd.length (by simp) (.slice B5 mm.body.length d5)
   rw [hget] at hqs
   simp only [hi] at hset
   rw [hqs] at hset
   have hq5:(qd ++ (mm,Value.slice B mm.body.length d) :: q.drop (qd.length + 1)).set qd.length (mm,.slice B5 mm.body.length d5) = (qd ++ [(mm,.slice B5 mm.body.length d5)]) ++ q.drop i1:=by
    rw [hi1']; simp
   rw [hq5] at hset
   simp -dsimp [go_sem,f35,hi1]
   have hl1:(qd ++ [(mm,Value.slice B5 mm.body.length d5)]).length = i1:=by simp [hi1']
   refine ⟨⟨qd ++ [(mm,.slice B5 mm.body.length d5)],by rw [hl1],by rw [hl1]; omega,?_,(hb4.nw k45).kp ks (by show ¬ x = g; omega),(hz4.nw k45).kp ks (by show ¬ zz = g; omega),by rw [hl1,hi]; exact hset,?_,(n4.nw k45).at_ ks (fun k (e:k = g) => by omega),Nat.le_trans hsz5 ks.size⟩,by simp [intOf]; omega⟩
   ·rw [hl1,← hqf,hi1']; simp
   ·intro p hp
    rcases List.mem_append.1 hp with hp | hp
    ·exact ((hd4 p hp).nw k45).kp ks fun k hk _ (e:k = g) => by omega
    ·rw [List.mem_singleton.1 hp]
     refine Bs.kp (Bs.mono (⟨B5,d5,rfl,ho5,hA5⟩:Bs w5 (.slice B5 mm.body.length d5) mm.body w4.drew.heap.size) ?_) ks fun k hk _ (e:k = g) => by omega
     exact Nat.le_trans hM3 k3.size
  ·have hlen:qd.length = b.L.length:=by omega
   have hge:¬ qd.length < b.L.length:=by omega
   rw [List.drop_eq_nil_of_le (by omega),List.append_nil] at hqf ho3
   have c0:=hb3.cell 0
   have c1:=hb3.cell 1
   have c2:=hb3.cell 2
   have c3:=hb3.cell 3
   have z0:=(hz3).cell 0
   have z1:=(hz3).cell 1
   have z2:=(hz3).cell 2
   have z3:=(hz3).cell 3
   have zf0:=(hz3).frozen 0
   have zf1:=(hz3).frozen 1
   have zf2:=(hz3).frozen 2
   have zf3:=(hz3).frozen 3
   simp -dsimp [go_sem,f35,hge,c0,c1,c2,c3,z0,z1,z2,z3,zf0,zf1,zf2,zf3]
   have ks:=kp_set4 w3 zz (.string b.name) (i64 b.val) (i64 b.next) (.slice A' b.L.length c')
   have hox:∀ k,blk A' k → x + 1 ≤ k:=fun k hk => by
    obtain ⟨a,rfl,rfl⟩:=blk_of hk
    exact hA' a rfl
   refine ⟨(k0.nw n3).at_ ks fun k (e:k = zz) => by omega,b,_,rfl,⟨_,rfl,qd,A',c',rfl,hqf,ho3.kp ks fun a ha (e:a.block = zz) => (by have:=hA' a ha; omega),fun a ha => (by have:=hA' a ha; omega),fun p hp => ((BsA.of (B0:=x + 1) (hd3 p hp) (by omega) hlt1).kp ks fun k _ _ _ (e:k = zz) => by omega).mono (by omega)⟩,?_⟩
   rcases hbi with ⟨h,_⟩ | ⟨h,_⟩
   ·exact .inr h
   ·exact .inl h
end
end Go.Proofs.YtellahclbhfdiaaGreatDoor
namespace Go.Vc
set_option linter.unusedSimpArgs false
set_option linter.unusedVariables false
open Go.Deep Go.ChangeShapes Go.WideShapes Go.ChangeAt Go.RowKit Go.ChangeMaps
section
variable {H:Type} {enc:TypeId × Value → H} {P:Program} {W:World} {base:Nat} {spare:Nat → Bool} {held:Bool}
theorem sz_strT {fuel:Nat} {t:TypeId} {cs:List Value} {x:DataW H × List MemPlace} (ht:P.underlying t = some .string) (hz:Sz P t x.1) (h:DataW.trod enc P W base spare held fuel t cs = some x):∃ s:List UInt8,cs = [.string ⟨s.toArray⟩] ∧ s.length ≤ reachBytes:=by
 obtain ⟨s,rfl,rfl,_⟩:=DataW.trod_string ht h
 refine ⟨s.data.toList,by simp,?_⟩
 exact hz s.data.toList.length (by rw [DataW.weights]; simp)
theorem flat_catT {α:Type} (cells:α → List Value) (K:Nat) (hc:∀ a,(cells a).length = K):∀ (q:List α) (i:Nat) (h:i < q.length),∀ j < K,(q.flatMap cells)[i * K + j]? = (cells q[i])[j]?
 | p :: q,0,_,j,hj => by
  rw [List.flatMap_cons,List.getElem?_append_left (by rw [hc]; omega),Nat.zero_mul,Nat.zero_add]
  rfl
 | p :: q,i + 1,h,j,hj => by
  have:=flat_catT cells K hc q i (by simpa using h) j hj
  rw [List.flatMap_cons,List.getElem?_append_right (by rw [hc,Nat.add_mul]; omega),hc]
  rw [show (i + 1) * K + j - K = i * K + j by rw [Nat.add_mul]; omega,this]
  rfl
end
end Go.Vc
namespace Go.Proofs.YtellahclbhfdiaaGreatDoor
set_option linter.unusedSimpArgs false
set_option linter.unusedVariables false
set_option maxRecDepth 100000
open Go.Vc Go.Deep Go.ChangeShapes Go.WideShapes Go.ChangeAt Go.RowKit Go.ChangeMaps
/-- A change, and the slices that its rows lie in. -/
abbrev CQ:=Chg × Value × Value
def ccells (p:CQ):List Value:=[i64 p.1.kind,str p.1.user,str p.1.pass,str p.1.box,str p.1.to,p.2.1,i64 p.1.mode,i64 p.1.flags,i64 p.1.date,p.2.2]
/-- A change as an argument has it. -/
def ChgG (W:World) (p:CQ):Prop:=RdI W p.2.1 p.1.uids ∧ RdB W p.2.2 p.1.body (fun _ => False) ∧ p.1.user.length ≤ 140737488355328 ∧ p.1.pass.length ≤ 140737488355328 ∧ p.1.box.length ≤ 140737488355328 ∧ p.1.to.length ≤ 140737488355328 ∧ p.1.uids.length ≤ 140737488355328 ∧ p.1.body.length ≤ 140737488355328 ∧
 I64 p.1.kind ∧ I64 p.1.mode ∧ I64 p.1.flags ∧ I64 p.1.date ∧ ∀ n ∈ p.1.uids,I64 n
theorem ChgG.nw {w w':World} {p:CQ} (h:ChgG w p) (k:Nw w w'):ChgG w' p:=⟨h.1.nw k,h.2.1.nw k,h.2.2⟩
theorem ChgG.rc {w:World} {p:CQ} (h:ChgG w p):RC w (.agg (ccells p).toArray) p.1 (fun _ => False):=by
 obtain ⟨⟨A,ca,e1,h1,h2⟩,⟨B,cb,e2,h3,h4,h5⟩,_⟩:=h
 refine ⟨A,ca,B,cb,?_,h2,h5,h1,fun _ _ _ h => h,h3,h4⟩
 unfold ccells
 rw [e1,e2]
section
variable {H:Type} {enc:TypeId × Value → H} {P:Program} {W:World} {base:Nat} {spare:Nat → Bool} {held:Bool}
theorem trod_chg {t ti ts tl tb tu:TypeId} {fuel:Nat} {cs:List Value} {x:DataW H × List MemPlace} (hu:(P.underlying t).map flds = some [(ti,0),(ts,1),(ts,2),(ts,3),(ts,4),(tl,5),(ti,6),(ti,7),(ti,8),(tb,9)]) (hi:P.underlying ti = some (.int .i64)) (hs:P.underlying ts = some .string) (hl:P.underlying tl = some (.slice ti)) (hb:P.underlying tb = some (.slice tu)) (hu8:P.underlying tu = some (.int .u8))
  (ci:P.cellsOf ti = 1) (cs':P.cellsOf ts = 1) (cl:P.cellsOf tl = 1) (cb:P.cellsOf tb = 1) (cu:P.cellsOf tu = 1) (ct:P.cellsOf t = 10) (bi:P.bytesOf ti = 8) (bu:P.bytesOf tu = 1) (hz:Sz P t x.1) (h:DataW.trod enc P W base spare held fuel t cs = some x):∃ p:CQ,cs = ccells p ∧ (ccells p).length = 10 ∧ ChgG W p:=by
 obtain ⟨hlen,n,hf⟩:=trod_flds_z hu (by simp) hz h
 rw [ct] at hlen
 match cs,hlen with
 | [v0,v1,v2,v3,v4,v5,v6,v7,v8,v9],_ =>
  obtain ⟨y0,h0,_⟩:=hf 0 _ rfl
  obtain ⟨y1,h1,s1⟩:=hf 1 _ rfl
  obtain ⟨y2,h2,s2⟩:=hf 2 _ rfl
  obtain ⟨y3,h3,s3⟩:=hf 3 _ rfl
  obtain ⟨y4,h4,s4⟩:=hf 4 _ rfl
  obtain ⟨y5,h5,s5⟩:=hf 5 _ rfl
  obtain ⟨y6,h6,_⟩:=hf 6 _ rfl
  obtain ⟨y7,h7,_⟩:=hf 7 _ rfl
  obtain ⟨y8,h8,_⟩:=hf 8 _ rfl
  obtain ⟨y9,h9,s9⟩:=hf 9 _ rfl
  simp only [ci,cs',cl,cb] at h0 h1 h2 h3 h4 h5 h6 h7 h8 h9
  obtain ⟨n0,e0,_,w0⟩:=DataW.trod_int hi h0
  obtain ⟨a1,e1,l1⟩:=sz_strT hs s1 h1
  obtain ⟨a2,e2,l2⟩:=sz_strT hs s2 h2
  obtain ⟨a3,e3,l3⟩:=sz_strT hs s3 h3
  obtain ⟨a4,e4,l4⟩:=sz_strT hs s4 h4
  obtain ⟨A,c,zs,e5,hr5,hc5,hm5,hz5⟩:=trod_nums hl hi ci h5
  obtain ⟨n6,e6,_,w6⟩:=DataW.trod_int hi h6
  obtain ⟨n7,e7,_,w7⟩:=DataW.trod_int hi h7
  obtain ⟨n8,e8,_,w8⟩:=DataW.trod_int hi h8
  obtain ⟨B,d,xs,e9,hr9,hc9,hm9⟩:=trod_bytes hb hu8 cu h9
  simp at e0 e1 e2 e3 e4 e5 e6 e7 e8 e9
  subst e0; subst e1; subst e2; subst e3; subst e4; subst e5; subst e6; subst e7; subst e8; subst e9
  have l5:=sz_len h5 s5 hl
  have l9:=sz_len h9 s9 hb
  rw [bi] at l5
  rw [bu] at l9
  unfold reachBytes at l1 l2 l3 l4 l5 l9
  exact ⟨(⟨n0,a1,a2,a3,a4,zs,n6,n7,n8,xs⟩,.slice A zs.length c,.slice B xs.length d),rfl,rfl,⟨A,c,rfl,hr5,hc5⟩,⟨B,d,rfl,hr9,fun _ _ _ h => h,hc9⟩,by simp only; omega,by simp only; omega,by simp only; omega,by simp only; omega,by simp only; omega,by simp only; omega,i64_wf w0,i64_wf w6,i64_wf w7,i64_wf w8,fun n hn => i64_wf (hz5 n hn)⟩
theorem arg_chgs {r:Reach} {tys:List TypeId} {ds:List (DataW H)} {j:Nat} {t e ti ts tl tb tu:TypeId} {v:Value} {d:DataW H} {ps:List MemPlace} (hz:(DataW.weightsEach P tys ds).all (· ≤ reachBytes) = true) (hts:tys[j]? = some t) (hds:ds[j]? = some d)
  (ht:P.underlying t = some (.slice e)) (hu:(P.underlying e).map flds = some [(ti,0),(ts,1),(ts,2),(ts,3),(ts,4),(tl,5),(ti,6),(ti,7),(ti,8),(tb,9)]) (hi:P.underlying ti = some (.int .i64)) (hs:P.underlying ts = some .string) (hl:P.underlying tl = some (.slice ti)) (hb:P.underlying tb = some (.slice tu)) (hu8:P.underlying tu = some (.int .u8))
  (ci:P.cellsOf ti = 1) (cs':P.cellsOf ts = 1) (cl:P.cellsOf tl = 1) (cb:P.cellsOf tb = 1) (cu:P.cellsOf tu = 1) (ct:P.cellsOf e = 10) (bi:P.bytesOf ti = 8) (bu:P.bytesOf tu = 1) (hval:∃ b0,Value.okWide P W r b0 t v) (h:DataW.Trod enc P W base spare held t v d ps) :
  ∃ A c,∃ q:List CQ,v = .slice A q.length c ∧ Rd W A (q.flatMap ccells) ∧ q.length ≤ c ∧ c ≤ maxLen ∧ ∀ p ∈ q,ChgG W p:=by
 obtain ⟨_,hval⟩:=hval
 obtain ⟨A,n,c,rfl⟩:=okWide_slice ht hval
 obtain ⟨fuel,hf⟩:=h
 obtain ⟨A',c',xs,e,h1,h2,h3,h4⟩:=trod_structs_z ccells (ChgG W) ht ct (by omega) (sz_arg hz hts hds) (fun n cs y hy ht => trod_chg hu hi hs hl hb hu8 ci cs' cl cb cu ct bi bu hy ht) hf
 simp only [Value.cells,List.cons.injEq,and_true] at e
 exact ⟨A',c',xs,e,h1,h2,h3,h4⟩
end
theorem chg_at {w:World} {A:Option Addr} {q:List CQ} (hr:Rd w A (q.flatMap ccells)) {i:Nat} (hi:i < q.length) :
  ∃ g o,A = some ⟨g,o,none⟩ ∧ ∀ j u,(ccells q[i])[j]? = some u → w.cell? ⟨g,o + i * 10 + j,none⟩ = some u:=by
 have hat:=flat_catT ccells 10 (fun _ => rfl) q i hi
 obtain ⟨g,o,rfl,_⟩:=hr _ _ ((hat 0 (by omega)).trans rfl)
 refine ⟨g,o,rfl,fun j u hj => ?_⟩
 have hj10:j < 10:=(List.getElem?_eq_some_iff.1 hj).1
 obtain ⟨_,_,e,e1⟩:=hr _ _ ((hat j hj10).trans hj)
 cases e
 rw [Nat.add_assoc]
 exact e1
set_option maxHeartbeats 2000000
open Go.Vc Go.RowKit
def heavyN (c:Chg):Nat:=1 + c.user.length + c.pass.length + c.box.length + c.to.length + c.uids.length + c.body.length
theorem heavy14_spec {v:Value} {c:Chg} (h:ChV v c) (hs:CSz c) (w:World):Cal Tryz.prog 8 #[v] w fun v' w' => v' = i64 (heavyN c) ∧ Nw w w':=by
 obtain ⟨A,ca,B,cb,rfl⟩:=h
 obtain ⟨h1,h2,h3,h4,h5,h6,_⟩:=hs
 unfold heavyN
 generalize hul:c.uids.length = ul at *
 generalize hbl:c.body.length = bl at *
 generalize hn1:c.user.length = n1 at *
 generalize hn2:c.pass.length = n2 at *
 generalize hn3:c.box.length = n3 at *
 generalize hn4:c.to.length = n4 at *
 have w1:IntKind.i64.wrap ((1:Int) + (n1:Int)) = ((1 + n1:Nat):Int):=by rw [w64 (by omega) (by omega)]; omega
 have w2:IntKind.i64.wrap (((1 + n1:Nat):Int) + (n2:Int)) = ((1 + n1 + n2:Nat):Int):=by rw [w64 (by omega) (by omega)]; omega
 have w3:IntKind.i64.wrap (((1 + n1 + n2:Nat):Int) + (n3:Int)) = ((1 + n1 + n2 + n3:Nat):Int):=by rw [w64 (by omega) (by omega)]; omega
 have w4:IntKind.i64.wrap (((1 + n1 + n2 + n3:Nat):Int) + (n4:Int)) = ((1 + n1 + n2 + n3 + n4:Nat):Int):=by rw [w64 (by omega) (by omega)]; omega
 have w5:IntKind.i64.wrap (((1 + n1 + n2 + n3 + n4:Nat):Int) + (ul:Int)) = ((1 + n1 + n2 + n3 + n4 + ul:Nat):Int):=by rw [w64 (by omega) (by omega)]; omega
 have w6:IntKind.i64.wrap (((1 + n1 + n2 + n3 + n4 + ul:Nat):Int) + (bl:Int)) = ((1 + n1 + n2 + n3 + n4 + ul + bl:Nat):Int):=by rw [w64 (by omega) (by omega)]; omega
 generalize 1 + n1 + n2 + n3 + n4 + ul + bl = s6 at *
 generalize 1 + n1 + n2 + n3 + n4 + ul = s5 at *
 generalize 1 + n1 + n2 + n3 + n4 = s4 at *
 generalize 1 + n1 + n2 + n3 = s3 at *
 generalize 1 + n1 + n2 = s2 at *
 generalize 1 + n1 = s1 at *
 refine enter Tryz.mixed Tryz.func8 rfl (by kernel_rfl) ?_
 simp -dsimp [go_sem,hul,hbl,hn1,hn2,hn3,hn4,w1,w2,w3,w4,w5,w6]
 exact (Kp.refl _ _).alloc _
theorem ChgG.sz {w:World} {p:CQ} (h:ChgG w p):CSz p.1 ∧ ChV (.agg (ccells p).toArray) p.1:=by
 obtain ⟨⟨A,ca,e1,h1,h2⟩,⟨B,cb,e2,h3,h4,h5⟩,a1,a2,a3,a4,a5,a6,_,_,_,_,a7⟩:=h
 refine ⟨⟨a1,a2,a3,a4,a5,a6,a7⟩,A,ca,B,cb,?_⟩
 unfold ccells
 rw [e1,e2]
theorem nm_conv {w:World} {A:Option Addr} {c:Nat} {l:List UInt8} (hr:Rd w A (l.map u8)):convR Tryz.prog 23 9 (.slice A l.length c) w = .ok (str l) w:=conv_str (e:=5) (by kernel_rfl) (by kernel_rfl) (by kernel_rfl) hr
/-- A box taken out of a store, in a variable of the statement's. -/
def BxV (w0 w':World) (z:Nat) (b:Bx):Prop:=∃ A n c,n = b.L.length ∧ Blk w' z 111 #[.string b.name,i64 b.val,i64 b.next,.slice A n c] ∧ RB w' (.agg #[.string b.name,i64 b.val,i64 b.next,.slice A n c]) b (fun _ => False) ∧ Nw w0 w' ∧ w0.heap.size ≤ z
theorem BxV.put {w w3 w5:World} {z:Nat} {b:Bx} {A:Option Addr} {c B:Nat} (hO:OB w5 (.agg #[.string b.name,i64 b.val,i64 b.next,.slice A b.L.length c]) b B) {cs:Array Value} (hz:Blk w5 z 111 #[.string ⟨#[]⟩,i64 0,i64 0,.slice none 0 0]) (hzB:z < B) (n:Nw w3 w5) (hzl:w3.heap.size ≤ z) :
  BxV w3 ((((w5.setCell ⟨z,0,none⟩ (.string b.name)).setCell ⟨z,1,none⟩ (i64 b.val)).setCell ⟨z,2,none⟩ (i64 b.next)).setCell ⟨z,3,none⟩ (.slice A b.L.length c)) z b:=by
 have ks:=kp_set4 w5 z (.string b.name) (i64 b.val) (i64 b.next) (.slice A b.L.length c)
 have hO2:=hO.kp ks fun k hk _ (e:k = z) => by omega
 exact ⟨A,_,c,rfl,blk_set4 hz _ _ _ _,hO2.rb.any,n.at_ ks fun k (e:k = z) => by omega,hzl⟩
theorem BxV.alloc {w3 w5:World} {b:Bx} {A:Option Addr} {c B:Nat} (hO:OB w5 (.agg #[.string b.name,i64 b.val,i64 b.next,.slice A b.L.length c]) b B) (n:Nw w3 w5) :
  BxV w3 (w5.alloc (.cells #[.string b.name,i64 b.val,i64 b.next,.slice A b.L.length c] 111)) w5.heap.size b:=by
 have ka:Nw w5 (w5.alloc (.cells #[.string b.name,i64 b.val,i64 b.next,.slice A b.L.length c] 111)):=(Kp.refl _ _).alloc _
 exact ⟨A,_,c,rfl,Blk.new _ _ _,(hO.nw ka).rb.any,n.nw ka,n.size⟩
theorem bxsL_at {T:Stt} {n:Nm} {u:Usr} (h:tLook T.us n = some u):bxsL T n = keysA u.bx:=by unfold bxsL; rw [h]
theorem getB_at {T:Stt} {n m:Nm} {u:Usr} (h:tLook T.us n = some u):getB T n m = tLook u.bx m:=by unfold getB; rw [h]
theorem Sm.state {w0 w:World} {s g l t:Nat} {S:Sto} {U E:Nat → Prop} (h:Sm w0 w s g l t S U E) (ok:S.T.Ok) :
  Cal Tryz.prog 18 #[.pointer (some ⟨s,0,none⟩)] w fun v w' => v = str (stateT S.T) ∧ Nw w w':=by
 have hl4:=ok.len
 refine enter Tryz.mixed Tryz.func18 rfl (by kernel_rfl) ?_
 simp -dsimp [go_sem]
 refine call (h.users ok) ?_
 rintro v w1 ⟨k1,A,ca,rfl,hrA,hca,hAl⟩
 rw [keysA_len]
 obtain ⟨N,hN⟩:∃ N,N = S.T.us.length:=⟨_,rfl⟩
 rw [← hN] at hl4 ⊢
 simp -dsimp [go_sem]
 refine loop [3,5,6,7,8,9,10,11,14,15,16,17,18,19,20,21,22,23,24,25,26,27,28,29,30,31,32,33,34,35,36,37,38,39,40,41,42,43,44,45,46,47,48,49,50,51,52,53,54,55,56,57,58,59,60,61] (by kernel_rfl)
  (fun f w' => Box2 (fun a b w' => ∃ (i:Nat) (o:Nm),a = i64 i ∧ i ≤ N ∧ b = str o ∧ o = (S.T.us.take i).flatMap userT ∧ Nw w1 w') (f 5) (f 3) w') (fun f _ => N - (intOf (f 5)).toNat)
  ⟨0,[],rfl,Nat.zero_le _,rfl,by simp,Kp.refl _ _⟩ ?_
 rintro f w3 ⟨i,o,f5,hi,f3,ho,k3⟩
 have hol:=stateT_len ok i
 rw [← ho] at hol
 by_cases hlt:i < N
 ·have hltL:i < S.T.us.length:=by omega
  have hi1:IntKind.i64.wrap ((i:Int) + 1) = ((i + 1:Nat):Int):=by rw [w64 (by omega) (by omega)]; omega
  obtain ⟨i1,hi1'⟩:∃ i1,i1 = i + 1:=⟨_,rfl⟩
  have htk:(S.T.us.take i1).flatMap userT = o ++ userT S.T.us[i]:=by rw [ho,hi1',List.take_succ_eq_append_getElem hltL,List.flatMap_append]; simp
  rw [← hi1'] at hi1
  obtain ⟨gA,oA,rfl,cA1⟩:=hrA i (str S.T.us[i].1) (by simp [keysA,hltL])
  have cA:=k3.cell_some cA1 fun h => h
  have hlk:=look_at ok.srt hltL
  have hUO:=ok.us _ _ hlk
  generalize S.T.us[i] = X at *
  obtain ⟨nm,u⟩:=X
  simp only at cA cA1 hlk hUO htk
  have unm:=(nmOk_len hUO.1).2
  have h3:=(h.nw k1).nw k3
  have a1:¬ 9223372036854775807 < o.length + 1:=by omega
  obtain ⟨o1,ho1⟩:∃ o1,o1 = o ++ [47]:=⟨_,rfl⟩
  obtain ⟨pre,hpre⟩:∃ pre,pre = o1 ++ nm:=⟨_,rfl⟩
  have ho1l:o1.length = o.length + 1:=by rw [ho1]; simp
  have hprel:pre.length = o.length + 1 + nm.length:=by rw [hpre,List.length_append,ho1l]
  have a2:¬ 9223372036854775807 < o1.length + nm.length:=by omega
  have c1:(⟨o.toArray⟩:ByteArray) ++ ⟨#[47]⟩ = ⟨o1.toArray⟩:=by rw [ho1]; exact cat_str o [47]
  have c2:(⟨o1.toArray⟩:ByteArray) ++ ⟨nm.toArray⟩ = ⟨pre.toArray⟩:=by rw [hpre]; exact cat_str o1 nm
  simp -dsimp [go_sem,f3,f5,hlt,cA,a1,a2,c1,c2]
  refine call (h3.boxes ok nm) ?_
  rw [bxsL_at hlk]
  rintro v w4 ⟨k4,Z,cz,rfl,hrZ,hcz,hZl⟩
  rw [keysA_len]
  obtain ⟨M,hM⟩:∃ M,M = u.bx.length:=⟨_,rfl⟩
  rw [← hM]
  have n4:=k3.nw k4
  simp -dsimp [go_sem]
  refine loop [3,7,8,9,10,11,33,34,35,36,37,38,39,40,41,42,43,44,45,46,47,48,49,50,51,52,53,54,55,56,57,58,59,60,61] (by kernel_rfl)
   (fun f w' => Box2 (fun a b w' => ∃ (j:Nat) (q:Nm),a = i64 j ∧ j ≤ M ∧ b = str q ∧ q = pre ++ (u.bx.take j).flatMap boxT ∧ Nw w4 w') (f 7) (f 3) w') (fun f _ => M - (intOf (f 7)).toNat)
   ⟨0,pre,rfl,Nat.zero_le _,rfl,by simp,Kp.refl _ _⟩ ?_
  rintro f' w5 ⟨j,q,f7,hj,f3',hq,k5⟩
  have hbl:=boxesT_len hUO.2 j
  have hub:=hUO.2.len
  have hql:q.length ≤ 600000:=by rw [hq,List.length_append]; omega
  by_cases hltj:j < M
  ·have hltB:j < u.bx.length:=by omega
   have hj1:IntKind.i64.wrap ((j:Int) + 1) = ((j + 1:Nat):Int):=by rw [w64 (by omega) (by omega)]; omega
   obtain ⟨j1,hj1'⟩:∃ j1,j1 = j + 1:=⟨_,rfl⟩
   have htkj:pre ++ (u.bx.take j1).flatMap boxT = q ++ boxT u.bx[j]:=by rw [hq,hj1',List.take_succ_eq_append_getElem hltB,List.flatMap_append]; simp
   rw [← hj1'] at hj1
   have hrZ5:=hrZ.nw k5
   obtain ⟨gZ,oZ,rfl,cZ⟩:=hrZ5 j (str u.bx[j].1) (by simp [keysA,hltB])
   have hlkb:=look_at hUO.2.srt hltB
   have hBO:=hUO.2.bx _ _ hlkb
   generalize u.bx[j] = Y at *
   obtain ⟨bn,b⟩:=Y
   simp only at cZ hlkb hBO htkj
   have cA5:=(k4.nw k5).cell_some cA fun h => h
   have h5:=(h3.nw k4).nw k5
   have hw5:∀ cs,Nw w5 (w5.alloc (.cells cs 111)).drew:=fun cs => ((Kp.refl _ _).alloc _).drew
   have kd:Nw w5 w5.drew:=(Kp.refl _ _).drew
   have hget:∀ W,Nw w5 W → Cal Tryz.prog 62 #[.pointer (some ⟨s,0,none⟩),str nm,str bn] W fun v w' => Nw W w' ∧ ∃ bv,v = .tuple #[bv,.bool true] ∧ OB w' bv b W.heap.size:=fun W k => by
    refine ((h5.nw k).get ok nm bn).mono ?_
    rw [getB_at hlk,hlkb]
    rintro v w' ⟨a1,b',bv,e1,e2,e3⟩
    rcases e3 with e3 | e3
    ·cases e3
    ·cases e3
     exact ⟨a1,bv,e1,e2⟩
   simp -dsimp [go_sem,f7,hltj]
   refine draw_cut (.take 0 (.take 1 (.take 2 (.take 3 (.take 4 (.take 5 (.take 6 (.take 7 (.take 8 (.alt 9 (.take 10 (.take 11 (.take 12 (.alt 13 (.alt 14 (.take 15 .done) .stop) .stop)))) (.alt 13 (.alt 9 (.take 10 (.take 11 (.take 12 (.alt 14 (.take 15 .done) .stop)))) .stop) .stop)))))))))))
    (fun st w' => st 0 = .pointer (some ⟨s,0,none⟩) ∧ st 3 = str q ∧ st 4 = .slice (some ⟨gA,oA,none⟩) N ca ∧ st 5 = i64 i ∧ st 6 = .slice (some ⟨gZ,oZ,none⟩) M cz ∧ st 7 = i64 j ∧ ∃ z,st 8 = .pointer (some ⟨z,0,none⟩) ∧ BxV w5 w' z b)
    (by kernel_rfl) (fun wz => Nw w5 wz) kd ?_ ?_
   ·simp -dsimp [go_sem,f5,hlt,cA5,f7,hltj,cZ]
    refine ⟨fun wz hz => by simp [hz.cell_some cA5 fun h => h],fun wz hz => by simp [hz.cell_some cZ fun h => h],?_,?_⟩
    ·refine call (hget _ kd) ?_
     rintro v w6 ⟨k6,bv,rfl,hO⟩
     obtain ⟨A6,c6,rfl⟩:=hO.open_
     have n6:=kd.nw k6
     have hB:=BxV.alloc hO n6
     refine ⟨n6,?_⟩
     simp -dsimp [go_sem]
     have ka:∀ cs,Nw w6 (w6.alloc (.cells cs 111)):=fun cs => (Kp.refl _ _).alloc _
     exact ⟨n6.nw (ka _),n6.nw (ka _),f3',f5,f7,hB⟩
    ·have kz:Nw w5 (w5.alloc (.cells #[.string ⟨#[]⟩,i64 0,i64 0,.slice none 0 0] 111)).drew:=((Kp.refl _ _).alloc _).drew
     have hz0:Blk (w5.alloc (.cells #[.string ⟨#[]⟩,i64 0,i64 0,.slice none 0 0] 111)).drew w5.heap.size 111 #[.string ⟨#[]⟩,i64 0,i64 0,.slice none 0 0]:=(Blk.new w5 _ _).nw ((Kp.refl (fun _ => False) _).drew)
     refine ⟨kz,?_⟩
     obtain ⟨z,hz⟩:∃ z,z = w5.heap.size:=⟨_,rfl⟩
     rw [← hz] at hz0 ⊢
     generalize (w5.alloc (.cells #[.string ⟨#[]⟩,i64 0,i64 0,.slice none 0 0] 111)).drew = wz at *
     have hzl:=hz0.lt
     refine call (hget wz kz) ?_
     rintro v w6 ⟨k6,bv,rfl,hO⟩
     obtain ⟨A6,c6,rfl⟩:=hO.open_
     have n6:=kz.nw k6
     have hz6:=hz0.nw k6
     have z0:=hz6.cell 0
     have z1:=hz6.cell 1
     have z2:=hz6.cell 2
     have z3:=hz6.cell 3
     have zf0:=hz6.frozen 0
     have zf1:=hz6.frozen 1
     have zf2:=hz6.frozen 2
     have zf3:=hz6.frozen 3
     have hB:=BxV.put (w:=w) (cs:=#[]) hO hz6 hzl n6 (by omega)
     refine ⟨n6,?_⟩
     simp -dsimp [go_sem,z0,z1,z2,z3,zf0,zf1,zf2,zf3]
     exact ⟨n6.at_ (kp_set4 w6 z _ _ _ _) fun k (e:k = z) => by omega,f3',f5,f7,hB⟩
   ·rintro f8 w6 ⟨e0,e3,e4,e5,e6,e7,z,e8,A6,n6,c6,hn6,hz,hR,k6,hzl⟩
    have z0:=hz.cell 0
    have z1:=hz.cell 1
    have z2:=hz.cell 2
    have z3:=hz.cell 3
    have hI:=IsB.of hBO.2
    have hbs:b.name.size ≤ 9223372036854775807:=by
     have:=isB_name hBO.2
     unfold nameOk at this
     simp only [Bool.and_eq_true,decide_eq_true_eq] at this
     have:=this.2; omega
    simp -dsimp [go_sem,e8,z0,z1,z2,z3]
    refine call (rencode_spec _ b w6 hR hbs (by have:=hI.len; omega)) ?_
    rintro v w7 ⟨hE,k7⟩
    rcases hE with ⟨_,ev,rfl,hB7⟩ | ⟨hno,_⟩
    ·obtain ⟨X,x,rfl,hoX,_⟩:=hB7
     have hex:=encX_len2 hBO.2
     have hcv:=nm_conv (c:=x) hoX.rd
     have htx:boxT (bn,b) = [124] ++ encX b:=rfl
     rw [htx] at htkj
     obtain ⟨ex,hex'⟩:∃ ex,ex = encX b:=⟨_,rfl⟩
     rw [← hex'] at htkj hex hcv ⊢
     obtain ⟨q1,hq1⟩:∃ q1,q1 = q ++ [124]:=⟨_,rfl⟩
     obtain ⟨q2,hq2⟩:∃ q2,q2 = q1 ++ ex:=⟨_,rfl⟩
     have hq1l:q1.length = q.length + 1:=by rw [hq1]; simp
     have b1:¬ 9223372036854775807 < q.length + 1:=by omega
     have b2:¬ 9223372036854775807 < q1.length + ex.length:=by omega
     have d1:(⟨q.toArray⟩:ByteArray) ++ ⟨#[124]⟩ = ⟨q1.toArray⟩:=by rw [hq1]; exact cat_str q [124]
     have d2:(⟨q1.toArray⟩:ByteArray) ++ ⟨ex.toArray⟩ = ⟨q2.toArray⟩:=by rw [hq2]; exact cat_str q1 ex
     simp -dsimp [go_sem,e3,hcv,b1,b2,d1,d2,e7,hj1]
     exact ⟨⟨j1,q2,rfl,by omega,rfl,by rw [htkj,hq2,hq1,List.append_assoc],(k5.nw k6).nw k7⟩,by simp [intOf,f7]; omega⟩
    ·rw [hBO.2] at hno; cases hno
  ·obtain rfl:j = M:=by omega
   rw [hM,List.take_length] at hq
   have hfin:q = (S.T.us.take i1).flatMap userT:=by
    rw [htk,hq,hpre,ho1]
    unfold userT
    simp only [List.append_assoc]
   simp -dsimp [go_sem,f7,hltj,f5,hi1,f3']
   exact ⟨⟨i1,q,rfl,by omega,rfl,hfin,n4.nw k5⟩,by simp [intOf]; omega⟩
 ·obtain rfl:i = N:=by omega
  rw [hN,List.take_length] at ho
  simp -dsimp [go_sem,f5,hlt,f3]
  exact ⟨by rw [ho]; rfl,k1.nw k3⟩
end Go.Proofs.YtellahclbhfdiaaGreatDoor
