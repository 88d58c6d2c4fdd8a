/-
  The reference's text and Encode, walked. By the session itself. Bytes read as a box, by ours and by the reference: the same. By the session itself. Bytes read as a change, by ours and by the reference: the same; cut short: none. By the session itself.
-/
import Derived.Test.YtellahclbhfdiaaGreatDoorQ21
import Derived.Test.YtellahclbhfdiaaGreatDoorQ09
import Derived.Test.YtellahclbhfdiaaGreatDoorQ25
import Derived.Test.YtellahclbhfdiaaGreatDoorQ10
namespace Go.Proofs.YtellahclbhfdiaaGreatDoor
set_option linter.unusedSimpArgs false
set_option linter.unusedVariables false
set_option maxRecDepth 100000
set_option maxHeartbeats 2000000
open Go.Vc Go.RowKit
theorem rtext_spec (s:Nm) (w:World) (hl:s.length ≤ 100000000000000):Cal Tryz.prog 35 #[str s] w fun u w' => Bs w' u (rowB s) w.heap.size ∧ Nw w w':=by
 refine enter Tryz.mixed Tryz.func35 rfl (by kernel_rfl) ?_
 obtain ⟨A,c,w2,ecv,k2,hr⟩:∃ A c w',convR Tryz.prog 9 23 (str s) w = .ok (.slice A s.length c) w' ∧ Nw w w' ∧ Rd w' A (s.map u8):=by
  obtain ⟨A,c,w',h1,h2,h3⟩:=conv_bytes (P:=Tryz.prog) (src:=9) (dst:=23) (e:=5) (by kernel_rfl) (by kernel_rfl) (by kernel_rfl) ⟨s.toArray⟩ w
  exact ⟨A,c,w',h1,h2,h3⟩
 simp -dsimp [go_sem,ecv]
 refine call (refBytes_spec s A c w2 hr hl) ?_
 rintro u w3 ⟨hB,k3⟩
 simp -dsimp [go_sem]
 exact ⟨hB.mono k2.size,k2.nw k3⟩
/-- APPEND onto bytes that were there in an older world: what is newer stays. -/
theorem bs_app_old {K:Value → World → Prop} {k:Stop K} {w0 w:World} {ty:TypeId} {X:Option Addr} {v:Value} {d B:Nat} {l m:List UInt8}
  (h0:Bs w0 v l B) (ho:Bs w v l B) (hr:Rd w X (m.map u8)) (hl:l.length + m.length ≤ 140737488355328) (hB:B ≤ w.heap.size) (hw:w0.heap.size ≤ w.heap.size)
  (h:∀ v' w',Bs w' v' (l ++ m) B → Kp (fun i => B ≤ i ∧ i < w0.heap.size) w w' → K v' w') :
  wV K k (appS Tryz.prog #[23,23] ty #[v,.slice X m.length d] w):=by
 obtain ⟨A,c,rfl,ho,hA⟩:=ho
 obtain ⟨A2,c2,e,h2,_⟩:=h0
 cases e
 have hlt:=h2.lt
 refine bf_app (F:=fun i => B ≤ i ∧ i < w0.heap.size) ⟨A,c,rfl,ho,fun i hi => ?_,fun i hi => by omega⟩ hr hl fun v' w' F' hF gr kF => ?_
 ·obtain ⟨a,rfl,rfl⟩:=blk_of hi
  exact ⟨hA a rfl,hlt a rfl⟩
 ·obtain ⟨A3,c3,rfl,h3,g1,g2⟩:=hF
  refine h _ w' ⟨A3,c3,rfl,h3,fun a ha => ?_⟩ kF
  rcases gr a.block (g1 _ (by subst ha; rfl)) with e | e
  ·exact e.1
  ·omega
/-- What the reference's Encode hands back: as ours. -/
theorem rcEncode_spec (v:Value) (c:Chg) (w:World) (S:Nat → Prop) (h:RC w v c S) (hs:CSz c) (hks:-9223372036854775808 ≤ c.kind ∧ c.kind ≤ 9223372036854775807) :
  Cal Tryz.prog 10 #[v] w fun v' w' => EncCR v' w' c w.heap.size ∧ Nw w w':=by
 have hv:=h
 obtain ⟨A,ca,B,cb,rfl,hca,hcb,hr,ho,hrb,hob⟩:=h
 obtain ⟨k,us,ps,bx,to,ul,m,f,d,bd⟩:=c
 obtain ⟨s1,s2,s3,s4,s5,s6,s7⟩:=id hs
 simp only at s1 s2 s3 s4 s5 s6 hr hrb hca hcb hks
 unfold chV at hv ⊢
 simp only at hv ⊢
 refine enter Tryz.mixed Tryz.func10 rfl (by kernel_rfl) ?_
 have n0:Nw w (w.alloc (.cells #[i64 k,str us,str ps,str bx,str to,.slice A ul.length ca,i64 m,i64 f,i64 d,.slice B bd.length cb] 25)):=(Kp.refl _ _).alloc _
 have hx:=Blk.new w 25 #[i64 k,str us,str ps,str bx,str to,.slice A ul.length ca,i64 m,i64 f,i64 d,.slice B bd.length cb]
 have hr:=hr.nw n0
 have hrb:=hrb.nw n0
 have hv:=hv.nw n0
 have p0:=hx.cell 0
 have p1:=hx.cell 1
 have p2:=hx.cell 2
 have p3:=hx.cell 3
 have p4:=hx.cell 4
 have p5:=hx.cell 5
 have p6:=hx.cell 6
 have p7:=hx.cell 7
 have p8:=hx.cell 8
 have p9:=hx.cell 9
 simp -dsimp [go_sem,p0,p1,p2,p3,p4,p5,p6,p7,p8,p9]
 generalize w.alloc (.cells #[i64 k,str us,str ps,str bx,str to,.slice A ul.length ca,i64 m,i64 f,i64 d,.slice B bd.length cb] 25) = wb at *
 generalize hxw:w.heap.size = x at *
 refine call (rcIs_spec _ _ wb S hv (by simp only; omega) (by simp only; omega) (by simp only; omega) (by simp only; omega) (by simp only; omega) (by simp only; omega)) ?_
 rintro v w1 ⟨rfl,k1⟩
 cases hok:chgOk ⟨k,us,ps,bx,to,ul,m,f,d,bd⟩ with
 | false =>
  simp -dsimp [go_sem]
  exact ⟨.inr ⟨hok,rfl⟩,n0.nw k1⟩
 | true =>
  have O:=chgOk_ok hok
  have o1:=O.kind
  have o2:=O.user
  have o3:=O.pass
  have o4:=O.box
  have o5:=O.to
  have o6:=O.uids
  have o7:=O.mode
  have o8:=O.flags
  have o9:=O.date
  have o10:=O.body
  simp only at o1 o2 o3 o4 o5 o6 o7 o8 o9 o10
  have n1:=n0.nw k1
  have hx1:=hx.nw k1
  have hr:=hr.nw k1
  have hrb:=hrb.nw k1
  clear p0 p1 p2 p3 p4 p5 p6 p7 p8 p9
  have p0:=hx1.cell 0
  have p1:=hx1.cell 1
  have p2:=hx1.cell 2
  have p3:=hx1.cell 3
  have p4:=hx1.cell 4
  have p5:=hx1.cell 5
  have p6:=hx1.cell 6
  have p7:=hx1.cell 7
  have p8:=hx1.cell 8
  have p9:=hx1.cell 9
  have kd:Nw w1 w1.drew:=(Kp.refl _ _).drew
  have d0:=kd.cell_some p0 fun h => h
  have d1:=kd.cell_some p1 fun h => h
  have d2:=kd.cell_some p2 fun h => h
  have nl:=numB_len9 (n:=clampN k) (clampN_le _)
  obtain ⟨e1,he1⟩:∃ e1,e1 = numB (clampN k):=⟨_,rfl⟩
  have rl1:=rowB_lenq (l:=us) (by omega)
  have rl2:=rowB_lenq (l:=ps) (by omega)
  have rl3:=rowB_lenq (l:=bx) (by omega)
  have rl4:=rowB_lenq (l:=to) (by omega)
  have rl5:=rowB_lenq (l:=bd) (by omega)
  have q1:=fun W => rtext_spec us W (by omega)
  have q2:=fun W => rtext_spec ps W (by omega)
  have q3:=fun W => rtext_spec bx W (by omega)
  have q4:=fun W => rtext_spec to W (by omega)
  have q0:=fun W => refNum_spec k W (by omega) (by omega)
  rw [← he1] at q0 nl
  obtain ⟨r1,hr1⟩:∃ r1,r1 = rowB us:=⟨_,rfl⟩
  obtain ⟨r2,hr2⟩:∃ r2,r2 = rowB ps:=⟨_,rfl⟩
  obtain ⟨r3,hr3⟩:∃ r3,r3 = rowB bx:=⟨_,rfl⟩
  obtain ⟨r4,hr4⟩:∃ r4,r4 = rowB to:=⟨_,rfl⟩
  rw [← hr1] at rl1 q1
  rw [← hr2] at rl2 q2
  rw [← hr3] at rl3 q3
  rw [← hr4] at rl4 q4
  simp -dsimp [go_sem]
  refine draw (.take 0 (.take 1 (.take 3 (.take 4 (.take 7 (.take 8 (.alt 2 (.alt 5 (.alt 6 (.alt 9 (.alt 10 (.take 11 .done) .stop) .stop) .stop) .stop) .stop))))))) (by kernel_rfl) (fun wz => Nw w1 wz) kd ?_
  simp -dsimp [go_sem,d0,d1,d2]
  repeat refine ⟨fun wz hz => by simp [hz.cell_some p0 fun h => h,hz.cell_some p1 fun h => h,hz.cell_some p2 fun h => h],?_⟩
  refine call (q0 _) ?_
  rintro va w2 ⟨hBa,k2⟩
  have m2:=kd.nw k2
  have hBa:=hBa.mono kd.size
  refine ⟨m2,?_⟩
  simp -dsimp [go_sem]
  refine call (q1 _) ?_
  rintro vb w3 ⟨hBb,k3⟩
  obtain ⟨X,x1,rfl,hoX,_⟩:=hBb
  have m3:=m2.nw k3
  refine ⟨m3,?_⟩
  simp -dsimp [go_sem]
  refine bs_app (B:=w1.heap.size) (hBa.nw k3) hoX.rd (by omega) m3.size ?_
  rintro vc w4 hBc k4
  have m4:=Nw.fr m3 k4 (Nat.le_refl _)
  refine ⟨m4,?_⟩
  simp -dsimp [go_sem]
  refine call (q2 _) ?_
  rintro vb w5 ⟨hBb,k5⟩
  obtain ⟨X,x1,rfl,hoX,_⟩:=hBb
  have m5:=m4.nw k5
  refine ⟨m5,?_⟩
  simp -dsimp [go_sem]
  refine bs_app (B:=w1.heap.size) (hBc.nw k5) hoX.rd (by rw [List.length_append]; omega) m5.size ?_
  rintro vt w6 hBt k6
  have m6:=Nw.fr m5 k6 (Nat.le_refl _)
  refine ⟨m6,?_⟩
  simp -dsimp [go_sem]
  obtain ⟨pA,hpA⟩:∃ pA,pA = e1 ++ r1 ++ r2:=⟨_,rfl⟩
  have hpAl:pA.length ≤ 51:=by rw [hpA]; simp only [List.length_append]; omega
  rw [← hpA] at hBt
  have q5:=fun W => refNum_spec (ul.length:Int) W (by omega) (by omega)
  have nl5:=numB_len9 (n:=clampN (ul.length:Int)) (clampN_le _)
  obtain ⟨e5,he5⟩:∃ e5,e5 = numB (clampN (ul.length:Int)):=⟨_,rfl⟩
  rw [← he5] at q5 nl5
  have kd6:Nw w6 w6.drew:=(Kp.refl _ _).drew
  have m7:=m6.nw kd6
  have d3:=m7.cell_some p3 fun h => h
  have d4:=m7.cell_some p4 fun h => h
  have d5:=m7.cell_some p5 fun h => h
  refine draw (.take 0 (.take 1 (.take 2 (.take 5 (.take 6 (.take 9 (.take 10 (.take 11 (.alt 3 (.alt 4 (.alt 7 (.alt 8 (.alt 12 (.alt 13 (.take 14 .done) .stop) .stop) .stop) .stop) .stop) .stop))))))))) (by kernel_rfl) (fun wz => Nw w1 wz) m7 ?_
  simp -dsimp [go_sem,d3,d4,d5]
  repeat refine ⟨fun wz hz => by simp [hz.cell_some p3 fun h => h,hz.cell_some p4 fun h => h,hz.cell_some p5 fun h => h],?_⟩
  refine call (q3 _) ?_
  rintro vb w8 ⟨hBb,k8⟩
  obtain ⟨X,x1,rfl,hoX,_⟩:=hBb
  have m8:=m7.nw k8
  refine ⟨m8,?_⟩
  simp -dsimp [go_sem]
  refine bs_app (B:=w1.heap.size) ((hBt.nw kd6).nw k8) hoX.rd (by omega) m8.size ?_
  rintro vc w9 hBc k9
  have m9:=Nw.fr m8 k9 (Nat.le_refl _)
  refine ⟨m9,?_⟩
  simp -dsimp [go_sem]
  refine call (q4 _) ?_
  rintro vb w10 ⟨hBb,k10⟩
  obtain ⟨X,x1,rfl,hoX,_⟩:=hBb
  have m10:=m9.nw k10
  refine ⟨m10,?_⟩
  simp -dsimp [go_sem]
  refine bs_app (B:=w1.heap.size) (hBc.nw k10) hoX.rd (by simp only [List.length_append]; omega) m10.size ?_
  rintro vd w11 hBd k11
  have m11:=Nw.fr m10 k11 (Nat.le_refl _)
  refine ⟨m11,?_⟩
  simp -dsimp [go_sem]
  refine call (q5 _) ?_
  rintro vb w12 ⟨hBb,k12⟩
  obtain ⟨X,x1,rfl,hoX,_⟩:=hBb
  have m12:=m11.nw k12
  refine ⟨m12,?_⟩
  simp -dsimp [go_sem]
  refine bs_app (B:=w1.heap.size) (hBd.nw k12) hoX.rd (by simp only [List.length_append]; omega) m12.size ?_
  rintro vt w13 hBt k13
  have m13:=Nw.fr m12 k13 (Nat.le_refl _)
  refine ⟨m13,?_⟩
  simp -dsimp [go_sem]
  obtain ⟨pB,hpB⟩:∃ pB,pB = pA ++ r3 ++ r4 ++ e5:=⟨_,rfl⟩
  have hpBl:pB.length ≤ 102:=by rw [hpB]; simp only [List.length_append]; omega
  rw [← hpB] at hBt
  have hul:∀ v ∈ ul,-9223372036854775808 ≤ v ∧ v ≤ 9223372036854775807:=fun v hv => by have:=o6.1 v hv; omega
  have q6:=fun (W:World) (k:Nw w1 W) => refNums_spec ul A ca W (hr.nw k) hul (by omega)
  have nl6:=numsB_len ul
  obtain ⟨z3,hz3⟩:∃ z3,z3 = [m,f,d]:=⟨_,rfl⟩
  have hz3l:z3.length = 3:=by rw [hz3]; rfl
  have hz3w:∀ v ∈ z3,-9223372036854775808 ≤ v ∧ v ≤ 9223372036854775807:=by
   rw [hz3]
   intro v hv
   simp at hv
   rcases hv with rfl | rfl | rfl <;> omega
  have hz3m:#[i64 m,i64 f,i64 d].toList = z3.map i64:=by rw [hz3]; rfl
  have nums3:∀ (W:World) P,Rd W P (z3.map i64) → Cal Tryz.prog 36 #[.slice P 3 3] W fun u w' => Bs w' u (numsB z3) W.heap.size ∧ Nw W w':=fun W P hr => by
   have:=refNums_spec z3 P 3 W hr hz3w (by omega)
   rw [hz3l] at this
   exact this
  have nl7:=numsB_len z3
  rw [hz3l] at nl7
  obtain ⟨e6,he6⟩:∃ e6,e6 = numsB ul:=⟨_,rfl⟩
  obtain ⟨e7,he7⟩:∃ e7,e7 = numsB z3:=⟨_,rfl⟩
  rw [← he6] at q6 nl6
  rw [← he7] at nums3 nl7
  have kd13:Nw w13 w13.drew:=(Kp.refl _ _).drew
  have m14:=m13.nw kd13
  have hBt0:=hBt
  have hBt:=hBt.nw kd13
  have d5:=m14.cell_some p5 fun h => h
  have d6:=m14.cell_some p6 fun h => h
  have d7:=m14.cell_some p7 fun h => h
  have d8:=m14.cell_some p8 fun h => h
  obtain ⟨pC,hpC⟩:∃ pC,pC = pB ++ e6 ++ e7:=⟨_,rfl⟩
  have hpCl:pC.length ≤ 345:=by rw [hpC]; simp only [List.length_append]; omega
  refine draw_cut (.take 0 (.take 1 (.take 2 (.take 5 (.take 6 (.take 7 (.take 8 (.take 9 (.take 10 (.alt 3 (.alt 4 (.alt 11 (.alt 12 (.alt 13 (.take 14 .done) .stop) .stop) .stop) (.alt 11 (.alt 4 (.alt 12 (.alt 13 (.take 14 .done) .stop) .stop) .stop) .stop)) (.alt 11 (.alt 3 (.alt 4 (.alt 12 (.alt 13 (.take 14 .done) .stop) .stop) .stop) .stop) .stop)))))))))))
   (fun st w' => st 1 = .pointer (some ⟨x,0,none⟩) ∧ ∃ v,st 4 = v ∧ Bs w' v pC w1.heap.size ∧ Nw w1 w') (by kernel_rfl) (fun wz => Nw w1 wz) m14 ?_ ?_
  ·simp -dsimp [go_sem,d5,d6,d7,d8]
   repeat refine ⟨fun wz hz => by simp [hz.cell_some p5 fun h => h,hz.cell_some p6 fun h => h,hz.cell_some p7 fun h => h,hz.cell_some p8 fun h => h],?_⟩
   have kal:∀ W:World,Nw W (W.alloc (.cells #[i64 m,i64 f,i64 d] 3)):=fun W => (Kp.refl _ _).alloc _
   have hrz:∀ W:World,Rd (W.alloc (.cells #[i64 m,i64 f,i64 d] 3)) (some ⟨W.heap.size,0,none⟩) (z3.map i64):=fun W => Rd.fresh rfl hz3m
   refine ⟨?_,?_⟩
   ·refine call (q6 _ m14) ?_
    rintro vb w15 ⟨hBb,k15⟩
    obtain ⟨X,x1,rfl,hoX,_⟩:=hBb
    have m15:=m14.nw k15
    refine ⟨m15,?_⟩
    simp -dsimp [go_sem]
    refine ⟨?_,?_⟩
    ·refine bs_app (B:=w1.heap.size) (hBt.nw k15) hoX.rd (by omega) m15.size ?_
     rintro vc w16 hBc k16
     have m16:=Nw.fr m15 k16 (Nat.le_refl _)
     have m17:=m16.nw (kal w16)
     refine ⟨m16,?_⟩
     simp -dsimp [go_sem]
     refine ⟨m17,?_⟩
     refine call (nums3 _ _ (hrz w16)) ?_
     rintro vb w18 ⟨hBb,k18⟩
     obtain ⟨X',x1',rfl,hoX',_⟩:=hBb
     have m18:=Kp.nw m17 k18
     refine ⟨m18,?_⟩
     simp -dsimp [go_sem]
     refine bs_app (B:=w1.heap.size) (Bs.nw (hBc.nw (kal w16)) k18) hoX'.rd (by simp only [List.length_append]; omega) m18.size ?_
     rintro vt w19 hBt' k19
     have m19:=Nw.fr m18 k19 (Nat.le_refl _)
     refine ⟨m19,?_⟩
     simp -dsimp [go_sem]
     rw [← hpC] at hBt'
     exact ⟨hBt',m19⟩
    ·have m16:=m15.nw (kal w15)
     refine ⟨m16,?_⟩
     have hz15:=k15.size
     have hz16:=(kal w15).size
     refine bs_app_old hBt ((hBt.nw k15).nw (kal w15)) (hoX.rd.nw (kal w15)) (by omega) m16.size (by omega) ?_
     rintro vc w16 hBc k16
     have m17:Nw w1 _:=m16.at_ k16 fun i hi => hi.1
     refine ⟨m17,?_⟩
     simp -dsimp [go_sem]
     have hz17:Rd w16 (some ⟨w15.heap.size,0,none⟩) (z3.map i64):=(hrz w15).kp k16 fun a ha _ e => by
      cases ha
      simp only at e
      omega
     refine call (nums3 _ _ hz17) ?_
     rintro vb w18 ⟨hBb,k18⟩
     obtain ⟨X',x1',rfl,hoX',_⟩:=hBb
     have m18:=Kp.nw m17 k18
     refine ⟨m18,?_⟩
     simp -dsimp [go_sem]
     refine bs_app (B:=w1.heap.size) (Bs.nw hBc k18) hoX'.rd (by simp only [List.length_append]; omega) m18.size ?_
     rintro vt w19 hBt' k19
     have m19:=Nw.fr m18 k19 (Nat.le_refl _)
     refine ⟨m19,?_⟩
     simp -dsimp [go_sem]
     rw [← hpC] at hBt'
     exact ⟨hBt',m19⟩
   ·have ka3:Nw w13 (w13.alloc (.cells #[i64 m,i64 f,i64 d] 3)).drew:=((Kp.refl _ _).alloc _).drew
    have hrz3:Rd (w13.alloc (.cells #[i64 m,i64 f,i64 d] 3)).drew (some ⟨w13.heap.size,0,none⟩) (z3.map i64):=(Rd.fresh rfl hz3m).nw ((Kp.refl (fun _ => False) _).drew)
    have m15:=m13.nw ka3
    refine ⟨m15,?_⟩
    refine call (q6 _ m15) ?_
    rintro vb w15 ⟨hBb,k15⟩
    obtain ⟨X,x1,rfl,hoX,_⟩:=hBb
    have m16:=m15.nw k15
    refine ⟨m16,?_⟩
    simp -dsimp [go_sem]
    have hz15:=k15.size
    have hz16:=ka3.size
    refine bs_app_old hBt0 ((hBt0.nw ka3).nw k15) hoX.rd (by omega) m16.size (by omega) ?_
    rintro vc w16 hBc k16
    have m17:Nw w1 _:=m16.at_ k16 fun i hi => hi.1
    refine ⟨m17,?_⟩
    simp -dsimp [go_sem]
    have hz17:Rd w16 (some ⟨w13.heap.size,0,none⟩) (z3.map i64):=(hrz3.nw k15).kp k16 fun a ha _ e => by
     cases ha
     simp only at e
     omega
    refine call (nums3 _ _ hz17) ?_
    rintro vb w18 ⟨hBb,k18⟩
    obtain ⟨X',x1',rfl,hoX',_⟩:=hBb
    have m18:=Kp.nw m17 k18
    refine ⟨m18,?_⟩
    simp -dsimp [go_sem]
    refine bs_app (B:=w1.heap.size) (Bs.nw hBc k18) hoX'.rd (by simp only [List.length_append]; omega) m18.size ?_
    rintro vt w19 hBt' k19
    have m19:=Nw.fr m18 k19 (Nat.le_refl _)
    refine ⟨m19,?_⟩
    simp -dsimp [go_sem]
    rw [← hpC] at hBt'
    exact ⟨hBt',m19⟩
  ·rintro f8 w20 ⟨g1,v,g4,hB,m20⟩
   have p9':=m20.cell_some p9 fun h => h
   simp -dsimp [go_sem,g1,g4,p9']
   refine call (refBytes_spec bd B cb w20 (hrb.nw m20) (by omega)) ?_
   rintro vb w21 ⟨hBb,k21⟩
   obtain ⟨X,x1,rfl,hoX,_⟩:=hBb
   have m21:=m20.nw k21
   simp -dsimp [go_sem,g4]
   refine bs_app (B:=w1.heap.size) (hB.nw k21) hoX.rd (by omega) m21.size ?_
   rintro vt w22 hBt k22
   have m22:=Nw.fr m21 k22 (Nat.le_refl _)
   simp -dsimp [go_sem]
   have hfin:pC ++ rowB bd = encC ⟨k,us,ps,bx,to,ul,m,f,d,bd⟩:=by
    rw [hpC,hpB,hpA,he1,he5,he6,he7,hr1,hr2,hr3,hr4,hz3]
    simp [encC,numsB,rowsB,List.append_assoc]
   rw [hfin] at hBt
   exact ⟨.inl ⟨hok,vt,rfl,hBt.mono (Nat.le_of_lt hx1.lt)⟩,n1.nw m22⟩
set_option maxHeartbeats 1000000
theorem takeN_inv:∀ (l:List UInt8) (i u n:Nat) (r:List UInt8),takeN i u l = some (n,r) → ∃ m,n = u + m * 2 ^ (7 * i) ∧ l = numB m ++ r ∧ (0 < i → 0 < m)
 | [],_,_,_,_,h => by simp [takeN] at h
 | c :: l,i,u,n,r,h => by
  simp only [takeN] at h
  have hc:=UInt8.toNat_lt c
  split at h
  ·cases h
  ·rename_i h1
   split at h
   ·rename_i h2
    split at h
    ·cases h
    ·injection h with h
     injection h with h3 h4
     subst h4
     refine ⟨c.toNat,?_,?_,fun hi => ?_⟩
     ·rw [← h3,Nat.mod_eq_of_lt h2]
     ·rw [numB_small h2]; simp
     ·by_cases e:c.toNat = 0
      ·exact absurd (.inr ⟨hi,e⟩) h1
      ·omega
   ·rename_i h2
    obtain ⟨m,hm,hl,hp⟩:=takeN_inv l _ _ _ _ h
    have hp:=hp (by omega)
    refine ⟨c.toNat % 128 + 128 * m,?_,?_,fun _ => by omega⟩
    ·rw [hm,show 7 * (i + 1) = 7 * i + 7 by omega,Nat.pow_add,show (2:Nat) ^ 7 = 128 from rfl,Nat.add_mul,Nat.mul_comm 128 m,Nat.mul_assoc m 128,Nat.mul_comm 128 (2 ^ (7 * i)),Nat.add_assoc]
    ·rw [numB_big (by omega),show (c.toNat % 128 + 128 * m) / 128 = m by omega,show (c.toNat % 128 + 128 * m) % 128 + 128 = c.toNat by omega,hl]
     simp
theorem numL_inv {l:List UInt8} (h:(numL l false).2.2 = false):l = numB (numL l false).1 ++ (numL l false).2.1 ∧ (numL l false).1 ≤ 4611686018427387904:=by
 unfold numL at h ⊢
 cases hx:takeN 0 0 l with
 | none => rw [hx] at h; cases h
 | some q =>
  obtain ⟨u,r⟩:=q
  obtain ⟨m,hm,hl,_⟩:=takeN_inv _ _ _ _ _ hx
  have:u = m:=by simpa using hm
  subst this
  exact ⟨hl,(takeN_len _ _ _ _ _ hx).2⟩
theorem bytL_inv {l:List UInt8} (h:(bytL l false).2.2 = false):l = rowB (bytL l false).1 ++ (bytL l false).2.1:=by
 have hu:=(bytL_used h).2
 unfold bytL rawL at h ⊢
 split at h
 ·rename_i hc
  have hn:=numL_inv h
  rw [if_pos hc]
  simp only
  have hlen:((numL l false).2.1.take ((numL l false).1:Int).toNat).length = (numL l false).1:=by
   rw [List.length_take]; omega
  unfold rowB
  rw [hlen,List.append_assoc,List.take_append_drop]
  exact hn.1
 ·cases h
theorem clamp_nat {n:Nat} (h:n ≤ 4611686018427387904):clampN (n:Int) = n:=by unfold clampN; omega
theorem numL_false {l:List UInt8} {bad:Bool} (h:(numL l bad).2.2 = false):bad = false:=(numL_used h).2
theorem bytL_false {l:List UInt8} {bad:Bool} (h:(bytL l bad).2.2 = false):bad = false:=(bytL_used h).2
theorem uidL_false:∀ (n:Nat) (l:List UInt8) (bad:Bool) (acc:List Int),(uidL n l bad acc).2.2 = false → bad = false
 | 0,_,_,_,h => h
 | n + 1,l,bad,acc,h => by
  simp only [uidL] at h
  split at h
  ·rename_i hb; rw [hb] at h; cases h
  ·rename_i hb; simpa using hb
theorem uidL_inv:∀ (n:Nat) (l:List UInt8) (acc:List Int),(uidL n l false acc).2.2 = false → ∃ L:List Int,(uidL n l false acc).1 = acc ++ L ∧ L.length = n ∧ l = numsB L ++ (uidL n l false acc).2.1
 | 0,l,acc,_ => ⟨[],by simp [uidL,numsB]⟩
 | n + 1,l,acc,h => by
  simp only [uidL] at h ⊢
  rw [if_neg (by decide)] at h ⊢
  have hb:=uidL_false _ _ _ _ h
  have e:=numL_inv hb
  rw [hb] at h ⊢
  obtain ⟨L,h1,h2,h3⟩:=uidL_inv n _ _ h
  refine ⟨((numL l false).1:Int) :: L,by rw [h1]; simp,by simp [h2],?_⟩
  rw [show numsB (((numL l false).1:Int) :: L) = numB (clampN ((numL l false).1:Int)) ++ numsB L by simp [numsB],clamp_nat e.2,List.append_assoc,← h3]
  exact e.1
theorem txt4_inv {l:List UInt8} {bad:Bool} (h:(txt4 l bad).2.2 = false):bad = false ∧ l = rowsB [(txt4 l bad).1.1,(txt4 l bad).1.2.1,(txt4 l bad).1.2.2.1,(txt4 l bad).1.2.2.2] ++ (txt4 l bad).2.1:=by
 have h3:=bytL_false (show (bytL (bytL (bytL (bytL l bad).2.1 (bytL l bad).2.2).2.1 (bytL (bytL l bad).2.1 (bytL l bad).2.2).2.2).2.1 (bytL (bytL (bytL l bad).2.1 (bytL l bad).2.2).2.1 (bytL (bytL l bad).2.1 (bytL l bad).2.2).2.2).2.2).2.2 = false from h)
 have h2:=bytL_false h3
 have h1:=bytL_false h2
 have h0:=bytL_false h1
 subst h0
 have e0:=bytL_inv h1
 unfold txt4 at h ⊢
 generalize bytL l false = a at *
 obtain ⟨a1,a2,a3⟩:=a
 simp only at h1 h2 h3 h e0 ⊢
 subst h1
 have e1:=bytL_inv h2
 generalize bytL a2 false = b at *
 obtain ⟨b1,b2,b3⟩:=b
 simp only at h2 h3 h e1 ⊢
 subst h2
 have e2:=bytL_inv h3
 generalize bytL b2 false = c at *
 obtain ⟨c1,c2,c3⟩:=c
 simp only at h3 h e2 ⊢
 subst h3
 have e3:=bytL_inv h
 generalize bytL c2 false = d at *
 obtain ⟨d1,d2,d3⟩:=d
 simp only at h e3 ⊢
 refine ⟨trivial,?_⟩
 rw [e0,e1,e2,e3]
 simp [rowsB]
theorem nm3_inv {l:List UInt8} {bad:Bool} (h:(nm3 l bad).2.2 = false):bad = false ∧ l = numsB [((numL l bad).1:Int),((nm2 l bad).1:Int),((nm3 l bad).1:Int)] ++ (nm3 l bad).2.1:=by
 have h1:=numL_false (show (numL (nm2 l bad).2.1 (nm2 l bad).2.2).2.2 = false from h)
 have h2:=numL_false (show (numL (numL l bad).2.1 (numL l bad).2.2).2.2 = false from h1)
 have h3:=numL_false h2
 subst h3
 have e1:=numL_inv h2
 have e2:(numL l false).2.1 = numB (nm2 l false).1 ++ (nm2 l false).2.1 ∧ (nm2 l false).1 ≤ 4611686018427387904:=by
  have h1':(numL (numL l false).2.1 (numL l false).2.2).2.2 = false:=h1
  rw [h2] at h1'
  have:=numL_inv h1'
  unfold nm2
  rwa [h2]
 have e3:(nm2 l false).2.1 = numB (nm3 l false).1 ++ (nm3 l false).2.1 ∧ (nm3 l false).1 ≤ 4611686018427387904:=by
  have h0':(numL (nm2 l false).2.1 (nm2 l false).2.2).2.2 = false:=h
  rw [h1] at h0'
  have:=numL_inv h0'
  unfold nm3
  rwa [h1]
 refine ⟨rfl,?_⟩
 unfold numsB
 simp only [List.flatMap_cons,List.flatMap_nil,List.append_nil,clamp_nat e1.2,clamp_nat e2.2,clamp_nat e3.2,List.append_assoc]
 rw [← e3.1,← e2.1,← e1.1]
theorem tailN_inv {n:Nat} {l:List UInt8} {bad:Bool} {t:(List Int × Nat × Nat × Nat × List UInt8) × List UInt8 × Bool} (e:tailN n l bad = t) (h:t.2.2 = false):bad = false ∧ t.1.1.length = n ∧
  l = numsB t.1.1 ++ (numsB [(t.1.2.1:Int),(t.1.2.2.1:Int),(t.1.2.2.2.1:Int)] ++ (rowB t.1.2.2.2.2 ++ t.2.1)):=by
 obtain ⟨u,hu⟩:∃ u,uidL n l bad [] = u:=⟨_,rfl⟩
 obtain ⟨z,hz⟩:∃ z,nm3 u.2.1 u.2.2 = z:=⟨_,rfl⟩
 obtain ⟨b,hb⟩:∃ b,bytL z.2.1 z.2.2 = b:=⟨_,rfl⟩
 rw [tailN_eq hu rfl rfl hz hb] at e
 subst e
 have hb2:b.2.2 = false:=h
 have h1:z.2.2 = false:=by rw [← hb] at hb2; exact bytL_false hb2
 have h2:=nm3_inv (by rw [hz]; exact h1)
 rw [hz] at h2
 have h3:bad = false:=by have:=h2.1; rw [← hu] at this; exact uidL_false _ _ _ _ this
 subst h3
 obtain ⟨L,u1,u2,u3⟩:=uidL_inv n l [] (by rw [hu]; exact h2.1)
 rw [hu,List.nil_append] at u1
 rw [hu] at u3
 have e4:z.2.1 = rowB b.1 ++ b.2.1:=by
  rw [h1] at hb
  have:=bytL_inv (l:=z.2.1) (by rw [hb]; exact hb2)
  rwa [hb] at this
 obtain ⟨u0,ul,ub⟩:=u
 obtain ⟨z0,zl,zb⟩:=z
 obtain ⟨b0,bl,bb⟩:=b
 simp only at u1 u3 h2 e4 ⊢
 subst u1
 refine ⟨trivial,u2,?_⟩
 unfold tailMk
 simp only
 rw [← e4,← h2.2]
 exact u3
theorem chMk_inv {p:List UInt8} {a:Nat × List UInt8 × Bool} {t:(Nm × Nm × Nm × Nm) × List UInt8 × Bool} {q:Nat × List UInt8 × Bool} {m:Nat} {u:(List Int × Nat × Nat × Nat × List UInt8) × List UInt8 × Bool}
  (ha:numL p false = a) (ht:txt4 a.2.1 a.2.2 = t) (hq:numL t.2.1 t.2.2 = q) (hu:tailN m q.2.1 q.2.2 = u) (h:u.2.2 = false):u.1.1.length = m ∧ (m = q.1 → p = encC (chMk a.1 t.1 u).1 ++ (chMk a.1 t.1 u).2.1):=by
 obtain ⟨h1,h2,h3⟩:=tailN_inv hu h
 refine ⟨h2,fun hm => ?_⟩
 subst hm
 have h4:t.2.2 = false:=by rw [← hq] at h1; exact numL_false h1
 have h5:=txt4_inv (by rw [ht]; exact h4)
 rw [ht] at h5
 have e1:=numL_inv (l:=p) (by rw [ha]; exact h5.1)
 rw [ha] at e1
 rw [h4] at hq
 have e2:=numL_inv (l:=t.2.1) (by rw [hq]; exact h1)
 rw [hq] at e2
 have n1:numsB [(a.1:Int)] = numB a.1:=by simp [numsB,clamp_nat e1.2]
 have n2:numsB [(u.1.1.length:Int)] = numB q.1:=by rw [h2]; simp [numsB,clamp_nat e2.2]
 obtain ⟨a0,al,ab⟩:=a
 obtain ⟨⟨t0,t1,t2,t3⟩,tl,tb⟩:=t
 obtain ⟨q0,ql,qb⟩:=q
 obtain ⟨⟨u0,u1,u2,u3,u4⟩,ul,ub⟩:=u
 simp only at h3 h5 e1 e2 n1 n2 ⊢
 unfold chMk encC
 simp only
 rw [n1,n2,show rowsB [u4] = rowB u4 by simp [rowsB],List.append_assoc,List.append_assoc,List.append_assoc,List.append_assoc,List.append_assoc,← h3,← e2.1,← h5.2]
 exact e1.1
theorem chRead_inv {p:List UInt8} (h:(chRead p).2.2 = false):p = encC (chRead p).1 ++ (chRead p).2.1:=by
 obtain ⟨a,ha⟩:∃ a,numL p false = a:=⟨_,rfl⟩
 obtain ⟨t,ht⟩:∃ t,txt4 a.2.1 a.2.2 = t:=⟨_,rfl⟩
 obtain ⟨q,hq⟩:∃ q,numL t.2.1 t.2.2 = q:=⟨_,rfl⟩
 obtain ⟨u,hu⟩:∃ u,tailN q.1 q.2.1 q.2.2 = u:=⟨_,rfl⟩
 rw [chRead_eq ha ht ((tailL_eq hq).trans hu)] at h ⊢
 exact (chMk_inv ha ht hq hu h).2 rfl
theorem chDec_of {p:List UInt8} (h:chDecOk p = true):p = encC (chRead p).1 ∧ chgOk (chRead p).1 = true:=by
 unfold chDecOk at h
 simp only [Bool.and_eq_true,Bool.not_eq_true',List.isEmpty_iff] at h
 have e:=chRead_inv h.1.1
 rw [h.1.2,List.append_nil] at e
 exact ⟨e,h.2⟩
/-- Cut short: it is none. -/
theorem chDec_cut {c:Chg} (h:chgOk c = true) {k:Nat} (hk:k < (encC c).length):chDecOk ((encC c).take k) = false:=by
 cases hd:chDecOk ((encC c).take k) with
 | false => rfl
 | true =>
  obtain ⟨e,ok⟩:=chDec_of hd
  generalize (chRead ((encC c).take k)).1 = c' at *
  have h1:=chRead_enc (chgOk_ok ok) ((encC c).drop k)
  rw [← e,List.take_append_drop,(chDec_enc h).1] at h1
  have h2:([]:List UInt8).length = ((encC c).drop k).length:=congrArg (fun x:Chg × List UInt8 × Bool => x.2.1.length) h1
  rw [List.length_drop,List.length_nil] at h2
  omega
/-- A change read by the reference: of the numbers at most 25. -/
def tailX (l:List UInt8) (bad:Bool):(List Int × Nat × Nat × Nat × List UInt8) × List UInt8 × Bool:=tailN (min (numL l bad).1 25) (numL l bad).2.1 (numL l bad).2.2
theorem tailX_eq {l:List UInt8} {bad:Bool} {q:Nat × List UInt8 × Bool} (hq:numL l bad = q):tailX l bad = tailN (min q.1 25) q.2.1 q.2.2:=by subst hq; rfl
def rcRead (p:List UInt8):Chg × List UInt8 × Bool :=
 chMk (numL p false).1 (txt4 (numL p false).2.1 (numL p false).2.2).1 (tailX (txt4 (numL p false).2.1 (numL p false).2.2).2.1 (txt4 (numL p false).2.1 (numL p false).2.2).2.2)
theorem rcRead_eq {p:List UInt8} {a:Nat × List UInt8 × Bool} {t:(Nm × Nm × Nm × Nm) × List UInt8 × Bool} {u:(List Int × Nat × Nat × Nat × List UInt8) × List UInt8 × Bool} (ha:numL p false = a) (ht:txt4 a.2.1 a.2.2 = t) (hu:tailX t.2.1 t.2.2 = u):rcRead p = chMk a.1 t.1 u:=by
 subst ha; subst ht; subst hu; rfl
def rcOk (p:List UInt8):Bool:=((!(rcRead p).2.2 && (rcRead p).2.1.isEmpty) && chgOk (rcRead p).1) && decide (encC (rcRead p).1 = p)
theorem chgOk_uids {c:Chg} (h:24 < c.uids.length):chgOk c = false:=by
 cases hc:chgOk c with
 | false => rfl
 | true => have:=(chgOk_ok hc).uids.2; omega
theorem rc_ok (p:List UInt8):rcOk p = chDecOk p ∧ (chDecOk p = true → rcRead p = chRead p):=by
 obtain ⟨a,ha⟩:∃ a,numL p false = a:=⟨_,rfl⟩
 obtain ⟨t,ht⟩:∃ t,txt4 a.2.1 a.2.2 = t:=⟨_,rfl⟩
 obtain ⟨q,hq⟩:∃ q,numL t.2.1 t.2.2 = q:=⟨_,rfl⟩
 obtain ⟨u,hu⟩:∃ u,tailN q.1 q.2.1 q.2.2 = u:=⟨_,rfl⟩
 obtain ⟨y,hy⟩:∃ y,tailN (min q.1 25) q.2.1 q.2.2 = y:=⟨_,rfl⟩
 have e1:=chRead_eq ha ht ((tailL_eq hq).trans hu)
 have e2:=rcRead_eq ha ht ((tailX_eq hq).trans hy)
 by_cases h:q.1 ≤ 25
 ·have e:rcRead p = chRead p:=by rw [e1,e2,← hu,← hy,Nat.min_eq_left h]
  refine ⟨?_,fun _ => e⟩
  have e3:rcOk p = (chDecOk p && decide (encC (chRead p).1 = p)):=by unfold rcOk chDecOk; rw [e]
  rw [e3]
  cases hd:chDecOk p with
  | false => rfl
  | true => rw [decide_eq_true (chDec_of hd).1.symm]; rfl
 ·have h1:chDecOk p = false:=by
   cases hb:(chMk a.1 t.1 u).2.2 with
   | true => unfold chDecOk; rw [e1,hb]; rfl
   | false =>
    have tt:=(chMk_inv ha ht hq hu hb).1
    unfold chDecOk
    rw [e1,chgOk_uids (by show 24 < u.1.1.length; omega),Bool.and_false]
  have h2:rcOk p = false:=by
   cases hb:(chMk a.1 t.1 y).2.2 with
   | true => unfold rcOk; rw [e2,hb]; rfl
   | false =>
    have tt:=(chMk_inv ha ht hq hy hb).1
    unfold rcOk
    rw [e2,chgOk_uids (by show 24 < y.1.1.length; omega),Bool.and_false,Bool.false_and]
  exact ⟨by rw [h1,h2],fun e => by rw [h1] at e; cases e⟩
end Go.Proofs.YtellahclbhfdiaaGreatDoor
