/-
  A change read by ours: Decode walked. By the session itself.
-/
import Derived.Test.YtellahclbhfdiaaGreatDoorZ39
import Derived.Test.YtellahclbhfdiaaGreatDoorZ11
namespace Go.Proofs.YtellahclbhfdiaaGreatDoor
set_option linter.unusedSimpArgs false
set_option linter.unusedVariables false
set_option maxRecDepth 100000
set_option maxHeartbeats 2000000
open Go.Vc Go.RowKit
/-- A reading under way: the change at x, the result's cell r0, the reader h. -/
structure Dy (w0 w:World) (x r0 h:Nat) (cs:Array Value) (l:List UInt8) (bad:Bool) (F:Nat → Prop):Prop where
 bx:Blk w x 25 cs
 br:Blk w r0 25 zeroC
 rd:Rdr w h l bad F
 on:Nw w0 w
 fx:∀ k,F k → k < x ∧ r0 < k
 hx:h < x
 hr:r0 < h
 new:w0.heap.size ≤ r0
section
variable {w0 w w':World} {x r0 h:Nat} {cs:Array Value} {l:List UInt8} {bad:Bool} {F:Nat → Prop}
theorem Dy.at_h (d:Dy w0 w x r0 h cs l bad F) {l':List UInt8} {bad':Bool} (hr:Rdr w' h l' bad' F) (k:Kp (At h) w w'):Dy w0 w' x r0 h cs l' bad' F :=
 ⟨d.bx.kp k fun (e:x = h) => by have:=d.hx; omega,d.br.kp k fun (e:r0 = h) => by have:=d.hr; omega,hr,d.on.at_ k fun i (e:i = h) => by have:=d.hr; have:=d.new; omega,d.fx,d.hx,d.hr,d.new⟩
theorem Dy.nw (d:Dy w0 w x r0 h cs l bad F) (k:Nw w w'):Dy w0 w' x r0 h cs l bad F:=⟨d.bx.nw k,d.br.nw k,d.rd.nw k,d.on.nw k,d.fx,d.hx,d.hr,d.new⟩
theorem Dy.fr (d:Dy w0 w x r0 h cs l bad F) {B:Nat} (k:Kp (Fr B) w w') (hB:x < B):Dy w0 w' x r0 h cs l bad F :=
 ⟨d.bx.kp k fun (e:B ≤ x) => by omega,d.br.kp k fun (e:B ≤ r0) => by have:=d.hr; have:=d.hx; omega,d.rd.kp_ k fun i hi (e:B ≤ i) => by have:=d.fx i hi; omega,d.on.at_ k fun i (e:B ≤ i) => by have:=d.hr; have:=d.hx; have:=d.new; omega,d.fx,d.hx,d.hr,d.new⟩
theorem Dy.set (d:Dy w0 w x r0 h cs l bad F) (i:Nat) (v:Value):Dy w0 (w.setCell ⟨x,i,none⟩ v) x r0 h (cs.setIfInBounds i v) l bad F:=by
 have k:Kp (At x) w (w.setCell ⟨x,i,none⟩ v):=(Kp.refl _ _).setCell_at _ _
 exact ⟨d.bx.set i v,d.br.kp k fun (e:r0 = x) => by have:=d.hr; have:=d.hx; omega,d.rd.kp_ k fun i hi (e:i = x) => by have:=d.fx i hi; omega,d.on.at_ k fun i (e:i = x) => by have:=d.hr; have:=d.hx; have:=d.new; omega,d.fx,d.hx,d.hr,d.new⟩
theorem Dy.num (d:Dy w0 w x r0 h cs l bad F) (hl:l.length ≤ 140737488355328):Cal Tryz.prog 39 #[.pointer (some ⟨h,0,none⟩)] w fun v w' => v = i64 (numL l bad).1 ∧ Dy w0 w' x r0 h cs (numL l bad).2.1 (numL l bad).2.2 F ∧ Kp (At h) w w' :=
 (num_spec h l bad F w d.rd hl).mono fun v w' ⟨e,hr,k⟩ => ⟨e,d.at_h hr k,k⟩
theorem Dy.bytes (d:Dy w0 w x r0 h cs l bad F) (hl:l.length ≤ 140737488355328):Cal Tryz.prog 40 #[.pointer (some ⟨h,0,none⟩)] w fun v w' => Bs w' v (bytL l bad).1 w.heap.size ∧ Dy w0 w' x r0 h cs (bytL l bad).2.1 (bytL l bad).2.2 F ∧ Kp (At h) w w' :=
 (rBytes_spec h l bad F w d.rd hl).mono fun v w' ⟨e,hr,k⟩ => ⟨e,d.at_h hr k,k⟩
end
/-- What a Decode hands back: all of it new. -/
def ChR3 (v:Value) (w:World) (ok:Bool) (c:Chg) (B:Nat):Prop:=(ok = true ∧ ∃ u,v = .tuple #[u,i64 0] ∧ RC w u c (fun k => k < B)) ∨ (ok = false ∧ v = .tuple #[.agg zeroC,i64 3])
theorem chDecode_spec (p:List UInt8) (A:Option Addr) (c:Nat) (w:World) (hr:Rd w A (p.map u8)) (hl:p.length ≤ 1000000) :
  Cal Tryz.prog 11 #[.slice A p.length c] w fun v w' => ChR3 v w' (chDecOk p) (chRead p).1 w.heap.size ∧ Nw w w':=by
 refine enter Tryz.mixed Tryz.func11 rfl (by kernel_rfl) ?_
 have k0:Nw w (w.alloc (.cells zeroC 25)):=(Kp.refl _ _).alloc _
 have hr0:Blk (w.alloc (.cells zeroC 25)) w.heap.size 25 zeroC:=Blk.new w 25 zeroC
 have sr:(w.alloc (.cells zeroC 25)).heap.size = w.heap.size + 1:=by simp
 obtain ⟨r0,hr0'⟩:∃ r0,r0 = w.heap.size:=⟨_,rfl⟩
 unfold zeroC at k0 sr
 rw [show (w.alloc (.cells zeroC 25)) = w.alloc (.cells #[i64 0,.string ⟨#[]⟩,.string ⟨#[]⟩,.string ⟨#[]⟩,.string ⟨#[]⟩,.slice none 0 0,i64 0,i64 0,i64 0,.slice none 0 0] 25) from rfl] at hr0
 simp -dsimp [go_sem]
 rw [← hr0'] at hr0 sr ⊢
 generalize w.alloc (.cells #[i64 0,.string ⟨#[]⟩,.string ⟨#[]⟩,.string ⟨#[]⟩,.string ⟨#[]⟩,.slice none 0 0,i64 0,i64 0,i64 0,.slice none 0 0] 25) = wa at *
 refine call (newReader_spec A c p wa (hr.nw k0) (by omega)) ?_
 rintro v w1 ⟨g,rfl,hgw,⟨F,hRd,hF⟩,hk1⟩
 have hr1:=hr0.nw hk1
 have n1:=k0.nw hk1
 have hgF:=hRd.in_
 have hgl:=hF g hgF
 simp -dsimp [go_sem]
 have la:=numL_len p false
 obtain ⟨a,ha⟩:∃ a,numL p false = a:=⟨_,rfl⟩
 have lb1:=bytL_size a.2.1 a.2.2
 obtain ⟨b1,hb1⟩:∃ b,bytL a.2.1 a.2.2 = b:=⟨_,rfl⟩
 have lb2:=bytL_size b1.2.1 b1.2.2
 obtain ⟨b2,hb2⟩:∃ b,bytL b1.2.1 b1.2.2 = b:=⟨_,rfl⟩
 have lb3:=bytL_size b2.2.1 b2.2.2
 obtain ⟨b3,hb3⟩:∃ b,bytL b2.2.1 b2.2.2 = b:=⟨_,rfl⟩
 have lb4:=bytL_size b3.2.1 b3.2.2
 obtain ⟨b4,hb4⟩:∃ b,bytL b3.2.1 b3.2.2 = b:=⟨_,rfl⟩
 rw [ha] at la
 rw [hb1] at lb1
 rw [hb2] at lb2
 rw [hb3] at lb3
 rw [hb4] at lb4
 obtain ⟨t1,ht1⟩:∃ t,t = b1.1:=⟨_,rfl⟩
 obtain ⟨t2,ht2⟩:∃ t,t = b2.1:=⟨_,rfl⟩
 obtain ⟨t3,ht3⟩:∃ t,t = b3.1:=⟨_,rfl⟩
 obtain ⟨t4,ht4⟩:∃ t,t = b4.1:=⟨_,rfl⟩
 have sN:∀ W,Rdr W g p false F → Cal Tryz.prog 39 #[.pointer (some ⟨g,0,none⟩)] W fun v w' => v = i64 a.1 ∧ Rdr w' g a.2.1 a.2.2 F ∧ Kp (At g) W w':=fun W h => by
  have:=num_spec g p false F W h (by omega)
  rw [ha] at this
  exact this
 have s1:∀ W,Rdr W g a.2.1 a.2.2 F → Cal Tryz.prog 40 #[.pointer (some ⟨g,0,none⟩)] W fun v w' => (∃ X xc,v = .slice X t1.length xc ∧ (convert 23 9 (.slice X t1.length xc)).run Tryz.prog w' = .ok (str t1) w' ∧ ∀ wz,Kp (At g) w' wz → (convert 23 9 (.slice X t1.length xc)).run Tryz.prog wz = .ok (str t1) wz) ∧ Rdr w' g b1.2.1 b1.2.2 F ∧ Kp (At g) W w':=fun W h => by
  have h0:=rBytes_spec g a.2.1 a.2.2 F W h (by omega)
  rw [hb1,← ht1] at h0
  refine h0.mono fun v w' ⟨hB,hR,k⟩ => ⟨?_,hR,k⟩
  obtain ⟨X,xc,rfl,hoX,hX⟩:=hB
  have hgW:g < W.heap.size:=by
   obtain ⟨_,_,hb,_⟩:=id h
   exact hb.lt
  exact ⟨X,xc,rfl,nm_conv hoX.rd,fun wz hz => nm_conv (hoX.kp hz fun a ha (e:a.block = g) => by have:=hX a ha; omega).rd⟩
 have s2:∀ W,Rdr W g b1.2.1 b1.2.2 F → Cal Tryz.prog 40 #[.pointer (some ⟨g,0,none⟩)] W fun v w' => (∃ X xc,v = .slice X t2.length xc ∧ (convert 23 9 (.slice X t2.length xc)).run Tryz.prog w' = .ok (str t2) w' ∧ ∀ wz,Kp (At g) w' wz → (convert 23 9 (.slice X t2.length xc)).run Tryz.prog wz = .ok (str t2) wz) ∧ Rdr w' g b2.2.1 b2.2.2 F ∧ Kp (At g) W w':=fun W h => by
  have h0:=rBytes_spec g b1.2.1 b1.2.2 F W h (by omega)
  rw [hb2,← ht2] at h0
  refine h0.mono fun v w' ⟨hB,hR,k⟩ => ⟨?_,hR,k⟩
  obtain ⟨X,xc,rfl,hoX,hX⟩:=hB
  have hgW:g < W.heap.size:=by
   obtain ⟨_,_,hb,_⟩:=id h
   exact hb.lt
  exact ⟨X,xc,rfl,nm_conv hoX.rd,fun wz hz => nm_conv (hoX.kp hz fun a ha (e:a.block = g) => by have:=hX a ha; omega).rd⟩
 have s3:∀ W,Rdr W g b2.2.1 b2.2.2 F → Cal Tryz.prog 40 #[.pointer (some ⟨g,0,none⟩)] W fun v w' => (∃ X xc,v = .slice X t3.length xc ∧ (convert 23 9 (.slice X t3.length xc)).run Tryz.prog w' = .ok (str t3) w' ∧ ∀ wz,Kp (At g) w' wz → (convert 23 9 (.slice X t3.length xc)).run Tryz.prog wz = .ok (str t3) wz) ∧ Rdr w' g b3.2.1 b3.2.2 F ∧ Kp (At g) W w':=fun W h => by
  have h0:=rBytes_spec g b2.2.1 b2.2.2 F W h (by omega)
  rw [hb3,← ht3] at h0
  refine h0.mono fun v w' ⟨hB,hR,k⟩ => ⟨?_,hR,k⟩
  obtain ⟨X,xc,rfl,hoX,hX⟩:=hB
  have hgW:g < W.heap.size:=by
   obtain ⟨_,_,hb,_⟩:=id h
   exact hb.lt
  exact ⟨X,xc,rfl,nm_conv hoX.rd,fun wz hz => nm_conv (hoX.kp hz fun a ha (e:a.block = g) => by have:=hX a ha; omega).rd⟩
 have s4:∀ W,Rdr W g b3.2.1 b3.2.2 F → Cal Tryz.prog 40 #[.pointer (some ⟨g,0,none⟩)] W fun v w' => (∃ X xc,v = .slice X t4.length xc ∧ (convert 23 9 (.slice X t4.length xc)).run Tryz.prog w' = .ok (str t4) w' ∧ ∀ wz,Kp (At g) w' wz → (convert 23 9 (.slice X t4.length xc)).run Tryz.prog wz = .ok (str t4) wz) ∧ Rdr w' g b4.2.1 b4.2.2 F ∧ Kp (At g) W w':=fun W h => by
  have h0:=rBytes_spec g b3.2.1 b3.2.2 F W h (by omega)
  rw [hb4,← ht4] at h0
  refine h0.mono fun v w' ⟨hB,hR,k⟩ => ⟨?_,hR,k⟩
  obtain ⟨X,xc,rfl,hoX,hX⟩:=hB
  have hgW:g < W.heap.size:=by
   obtain ⟨_,_,hb,_⟩:=id h
   exact hb.lt
  exact ⟨X,xc,rfl,nm_conv hoX.rd,fun wz hz => nm_conv (hoX.kp hz fun a ha (e:a.block = g) => by have:=hX a ha; omega).rd⟩
 have base:∀ (W:World) (l:List UInt8) (bad:Bool),Kp (At g) w1 W → Rdr W g l bad F → ∀ x cs,Blk W x 25 cs → w1.heap.size ≤ x → Dy w W x r0 g cs l bad F:=fun W l bad hK hR x cs hx hx1 =>
  ⟨hx,hr1.kp hK fun (e:r0 = g) => by omega,hR,n1.at_ hK fun k (e:k = g) => by omega,fun k hk => by have:=hF k hk; omega,by omega,by omega,by omega⟩
 have kd:Nw w1 w1.drew:=(Kp.refl _ _).drew
 have hR:=hRd.nw kd
 refine drawF_cut (.take 0 (.take 2 (.take 5 (.take 8 (.take 11 (.alt 1 (.alt 3 (.take 4 (.alt 6 (.take 7 (.alt 9 (.take 10 (.alt 12 (.take 13 (.alt 14 (.alt 15 (.alt 16 .done .stop) .stop) (.alt 15 (.alt 14 (.alt 16 .done .stop) .stop) .stop))) (.alt 15 (.alt 12 (.take 13 (.alt 14 (.alt 16 .done .stop) .stop)) .stop) .stop))) (.alt 15 (.alt 9 (.take 10 (.alt 12 (.take 13 (.alt 14 (.alt 16 .done .stop) .stop)) .stop)) .stop) .stop))) (.alt 15 (.alt 6 (.take 7 (.alt 9 (.take 10 (.alt 12 (.take 13 (.alt 14 (.alt 16 .done .stop) .stop)) .stop)) .stop)) .stop) .stop))) (.alt 15 (.alt 3 (.take 4 (.alt 6 (.take 7 (.alt 9 (.take 10 (.alt 12 (.take 13 (.alt 14 (.alt 16 .done .stop) .stop)) .stop)) .stop)) .stop)) .stop) .stop)) (.alt 15 (.alt 1 (.alt 3 (.take 4 (.alt 6 (.take 7 (.alt 9 (.take 10 (.alt 12 (.take 13 (.alt 14 (.alt 16 .done .stop) .stop)) .stop)) .stop)) .stop)) .stop) .stop) .stop))))))) 16
  (fun st w' => st 2 = .pointer (some ⟨r0,0,none⟩) ∧ st 4 = .pointer (some ⟨g,0,none⟩) ∧ ∃ x,st 5 = .pointer (some ⟨x,0,none⟩) ∧ Dy w w' x r0 g #[i64 a.1,str t1,str t2,str t3,str t4,.slice none 0 0,i64 0,i64 0,i64 0,.slice none 0 0] b4.2.1 b4.2.2 F)
  (by kernel_rfl) (Kp (At g)) (fun w => Kp.refl _ w) (fun a b c h1 h2 => h1.trans h2 fun _ _ h => h) ?_ ?_
 ·have hK:Kp (At g) w1 w1.drew:=Nw.kp kd _
  simp -dsimp [go_sem]
  have kal:Kp (At g) w1.drew (World.alloc w1.drew (.cells #[i64 0,.string ⟨#[]⟩,.string ⟨#[]⟩,.string ⟨#[]⟩,.string ⟨#[]⟩,.slice none 0 0,i64 0,i64 0,i64 0,.slice none 0 0] 25)):=(Kp.refl _ _).alloc _
  refine ⟨?_,kal,?_⟩
  ·skip
   refine call (sN _ hR) ?_
   rintro v wq1 ⟨rfl,hR,kq1⟩
   have hK:=hK.trans kq1 fun _ _ h => h
   refine ⟨.inr kq1,?_⟩
   simp -dsimp [go_sem]
   have kal:Kp (At g) wq1 (World.alloc wq1 (.cells #[i64 0,.string ⟨#[]⟩,.string ⟨#[]⟩,.string ⟨#[]⟩,.string ⟨#[]⟩,.slice none 0 0,i64 0,i64 0,i64 0,.slice none 0 0] 25)):=(Kp.refl _ _).alloc _
   refine ⟨?_,kal,?_⟩
   ·skip
    refine call (s1 _ hR) ?_
    rintro v wq2 ⟨⟨X1,x1,rfl,c1,d1⟩,hR,kq2⟩
    have hK:=hK.trans kq2 fun _ _ h => h
    refine ⟨.inr kq2,?_⟩
    simp -dsimp [go_sem,c1]
    refine ⟨d1,?_⟩
    have kal:Kp (At g) wq2 (World.alloc wq2 (.cells #[i64 0,.string ⟨#[]⟩,.string ⟨#[]⟩,.string ⟨#[]⟩,.string ⟨#[]⟩,.slice none 0 0,i64 0,i64 0,i64 0,.slice none 0 0] 25)):=(Kp.refl _ _).alloc _
    refine ⟨?_,kal,?_⟩
    ·skip
     refine call (s2 _ hR) ?_
     rintro v wq3 ⟨⟨X2,x2,rfl,c2,d2⟩,hR,kq3⟩
     have hK:=hK.trans kq3 fun _ _ h => h
     refine ⟨.inr kq3,?_⟩
     simp -dsimp [go_sem,c2]
     refine ⟨d2,?_⟩
     have kal:Kp (At g) wq3 (World.alloc wq3 (.cells #[i64 0,.string ⟨#[]⟩,.string ⟨#[]⟩,.string ⟨#[]⟩,.string ⟨#[]⟩,.slice none 0 0,i64 0,i64 0,i64 0,.slice none 0 0] 25)):=(Kp.refl _ _).alloc _
     refine ⟨?_,kal,?_⟩
     ·skip
      refine call (s3 _ hR) ?_
      rintro v wq4 ⟨⟨X3,x3,rfl,c3,d3⟩,hR,kq4⟩
      have hK:=hK.trans kq4 fun _ _ h => h
      refine ⟨.inr kq4,?_⟩
      simp -dsimp [go_sem,c3]
      refine ⟨d3,?_⟩
      have kal:Kp (At g) wq4 (World.alloc wq4 (.cells #[i64 0,.string ⟨#[]⟩,.string ⟨#[]⟩,.string ⟨#[]⟩,.string ⟨#[]⟩,.slice none 0 0,i64 0,i64 0,i64 0,.slice none 0 0] 25)):=(Kp.refl _ _).alloc _
      refine ⟨?_,kal,?_⟩
      ·skip
       refine call (s4 _ hR) ?_
       rintro v wq5 ⟨⟨X4,x4,rfl,c4,d4⟩,hR,kq5⟩
       have hK:=hK.trans kq5 fun _ _ h => h
       refine ⟨.inr kq5,?_⟩
       simp -dsimp [go_sem,c4]
       refine ⟨d4,?_⟩
       have kal:∀ cs,Kp (fun _ => False) _ (World.alloc _ (.cells cs 25)):=fun cs => (Kp.refl _ wq5).alloc _
       have dn:=base _ _ _ (hK.nw (kal #[i64 a.1,str t1,str t2,str t3,str t4,.slice none 0 0,i64 0,i64 0,i64 0,.slice none 0 0])) (hR.nw (kal _)) _ _ (Blk.new wq5 25 #[i64 a.1,str t1,str t2,str t3,str t4,.slice none 0 0,i64 0,i64 0,i64 0,.slice none 0 0]) hK.size
       simp [go_sem]
       exact ⟨⟨Kp.refl _ _,(Kp.refl _ _).alloc _,dn⟩,(Kp.refl _ _).alloc _,Kp.refl _ _,dn⟩
      ·have hx:Blk (World.alloc wq4 (.cells #[i64 0,.string ⟨#[]⟩,.string ⟨#[]⟩,.string ⟨#[]⟩,.string ⟨#[]⟩,.slice none 0 0,i64 0,i64 0,i64 0,.slice none 0 0] 25)) (wq4).heap.size 25 #[i64 0,.string ⟨#[]⟩,.string ⟨#[]⟩,.string ⟨#[]⟩,.string ⟨#[]⟩,.slice none 0 0,i64 0,i64 0,i64 0,.slice none 0 0]:=Blk.new wq4 25 #[i64 0,.string ⟨#[]⟩,.string ⟨#[]⟩,.string ⟨#[]⟩,.string ⟨#[]⟩,.slice none 0 0,i64 0,i64 0,i64 0,.slice none 0 0]
       have hgx:g < (wq4).heap.size:=by have:=hK.size; omega
       have hwx:w1.heap.size ≤ (wq4).heap.size:=hK.size
       have hR:Rdr (World.alloc wq4 (.cells #[i64 0,.string ⟨#[]⟩,.string ⟨#[]⟩,.string ⟨#[]⟩,.string ⟨#[]⟩,.slice none 0 0,i64 0,i64 0,i64 0,.slice none 0 0] 25)) g _ _ F:=hR.nw ((Kp.refl (fun _ => False) wq4).alloc (.cells #[i64 0,.string ⟨#[]⟩,.string ⟨#[]⟩,.string ⟨#[]⟩,.string ⟨#[]⟩,.slice none 0 0,i64 0,i64 0,i64 0,.slice none 0 0] 25))
       have hK:Kp (At g) w1 (World.alloc wq4 (.cells #[i64 0,.string ⟨#[]⟩,.string ⟨#[]⟩,.string ⟨#[]⟩,.string ⟨#[]⟩,.slice none 0 0,i64 0,i64 0,i64 0,.slice none 0 0] 25)):=hK.trans kal fun _ _ h => h
       clear kal
       generalize World.alloc wq4 (.cells #[i64 0,.string ⟨#[]⟩,.string ⟨#[]⟩,.string ⟨#[]⟩,.string ⟨#[]⟩,.slice none 0 0,i64 0,i64 0,i64 0,.slice none 0 0] 25) = wA at *
       generalize (wq4).heap.size = x at *
       refine call (s4 _ hR) ?_
       rintro v wq6 ⟨⟨X4,x4,rfl,c4,d4⟩,hR,kq6⟩
       have hx:=hx.kp kq6 fun (e:x = g) => by omega
       have hK:=hK.trans kq6 fun _ _ h => h
       refine ⟨.inr kq6,?_⟩
       simp -dsimp [go_sem,c4]
       refine ⟨d4,?_⟩
       have d:=base _ _ _ hK hR x _ hx hwx
       have dd:=(((((((((d.set 0 (i64 a.1)).set 1 (str t1)).set 2 (str t2)).set 3 (str t3)).set 4 (str t4)).set 5 (.slice none 0 0)).set 6 (i64 0)).set 7 (i64 0)).set 8 (i64 0)).set 9 (.slice none 0 0)
       have z0:=hx.cell 0
       have z1:=hx.cell 1
       have z2:=hx.cell 2
       have z3:=hx.cell 3
       have z4:=hx.cell 4
       have z5:=hx.cell 5
       have z6:=hx.cell 6
       have z7:=hx.cell 7
       have z8:=hx.cell 8
       have z9:=hx.cell 9
       have f0:=hx.frozen 0
       have f1:=hx.frozen 1
       have f2:=hx.frozen 2
       have f3:=hx.frozen 3
       have f4:=hx.frozen 4
       have f5:=hx.frozen 5
       have f6:=hx.frozen 6
       have f7:=hx.frozen 7
       have f8:=hx.frozen 8
       have f9:=hx.frozen 9
       simp [go_sem]
       refine ⟨Kp.refl _ _,?_⟩
       simp -dsimp [go_sem,z0,z1,z2,z3,z4,z5,z6,z7,z8,z9,f0,f1,f2,f3,f4,f5,f6,f7,f8,f9]
       simpa using dd
     ·have hx:Blk (World.alloc wq3 (.cells #[i64 0,.string ⟨#[]⟩,.string ⟨#[]⟩,.string ⟨#[]⟩,.string ⟨#[]⟩,.slice none 0 0,i64 0,i64 0,i64 0,.slice none 0 0] 25)) (wq3).heap.size 25 #[i64 0,.string ⟨#[]⟩,.string ⟨#[]⟩,.string ⟨#[]⟩,.string ⟨#[]⟩,.slice none 0 0,i64 0,i64 0,i64 0,.slice none 0 0]:=Blk.new wq3 25 #[i64 0,.string ⟨#[]⟩,.string ⟨#[]⟩,.string ⟨#[]⟩,.string ⟨#[]⟩,.slice none 0 0,i64 0,i64 0,i64 0,.slice none 0 0]
      have hgx:g < (wq3).heap.size:=by have:=hK.size; omega
      have hwx:w1.heap.size ≤ (wq3).heap.size:=hK.size
      have hR:Rdr (World.alloc wq3 (.cells #[i64 0,.string ⟨#[]⟩,.string ⟨#[]⟩,.string ⟨#[]⟩,.string ⟨#[]⟩,.slice none 0 0,i64 0,i64 0,i64 0,.slice none 0 0] 25)) g _ _ F:=hR.nw ((Kp.refl (fun _ => False) wq3).alloc (.cells #[i64 0,.string ⟨#[]⟩,.string ⟨#[]⟩,.string ⟨#[]⟩,.string ⟨#[]⟩,.slice none 0 0,i64 0,i64 0,i64 0,.slice none 0 0] 25))
      have hK:Kp (At g) w1 (World.alloc wq3 (.cells #[i64 0,.string ⟨#[]⟩,.string ⟨#[]⟩,.string ⟨#[]⟩,.string ⟨#[]⟩,.slice none 0 0,i64 0,i64 0,i64 0,.slice none 0 0] 25)):=hK.trans kal fun _ _ h => h
      clear kal
      generalize World.alloc wq3 (.cells #[i64 0,.string ⟨#[]⟩,.string ⟨#[]⟩,.string ⟨#[]⟩,.string ⟨#[]⟩,.slice none 0 0,i64 0,i64 0,i64 0,.slice none 0 0] 25) = wA at *
      generalize (wq3).heap.size = x at *
      refine call (s3 _ hR) ?_
      rintro v wq7 ⟨⟨X3,x3,rfl,c3,d3⟩,hR,kq7⟩
      have hx:=hx.kp kq7 fun (e:x = g) => by omega
      have hK:=hK.trans kq7 fun _ _ h => h
      refine ⟨.inr kq7,?_⟩
      simp -dsimp [go_sem,c3]
      refine ⟨d3,?_⟩
      refine call (s4 _ hR) ?_
      rintro v wq8 ⟨⟨X4,x4,rfl,c4,d4⟩,hR,kq8⟩
      have hx:=hx.kp kq8 fun (e:x = g) => by omega
      have hK:=hK.trans kq8 fun _ _ h => h
      refine ⟨.inr kq8,?_⟩
      simp -dsimp [go_sem,c4]
      refine ⟨d4,?_⟩
      have d:=base _ _ _ hK hR x _ hx hwx
      have dd:=(((((((((d.set 0 (i64 a.1)).set 1 (str t1)).set 2 (str t2)).set 3 (str t3)).set 4 (str t4)).set 5 (.slice none 0 0)).set 6 (i64 0)).set 7 (i64 0)).set 8 (i64 0)).set 9 (.slice none 0 0)
      have z0:=hx.cell 0
      have z1:=hx.cell 1
      have z2:=hx.cell 2
      have z3:=hx.cell 3
      have z4:=hx.cell 4
      have z5:=hx.cell 5
      have z6:=hx.cell 6
      have z7:=hx.cell 7
      have z8:=hx.cell 8
      have z9:=hx.cell 9
      have f0:=hx.frozen 0
      have f1:=hx.frozen 1
      have f2:=hx.frozen 2
      have f3:=hx.frozen 3
      have f4:=hx.frozen 4
      have f5:=hx.frozen 5
      have f6:=hx.frozen 6
      have f7:=hx.frozen 7
      have f8:=hx.frozen 8
      have f9:=hx.frozen 9
      simp [go_sem]
      refine ⟨Kp.refl _ _,?_⟩
      simp -dsimp [go_sem,z0,z1,z2,z3,z4,z5,z6,z7,z8,z9,f0,f1,f2,f3,f4,f5,f6,f7,f8,f9]
      simpa using dd
    ·have hx:Blk (World.alloc wq2 (.cells #[i64 0,.string ⟨#[]⟩,.string ⟨#[]⟩,.string ⟨#[]⟩,.string ⟨#[]⟩,.slice none 0 0,i64 0,i64 0,i64 0,.slice none 0 0] 25)) (wq2).heap.size 25 #[i64 0,.string ⟨#[]⟩,.string ⟨#[]⟩,.string ⟨#[]⟩,.string ⟨#[]⟩,.slice none 0 0,i64 0,i64 0,i64 0,.slice none 0 0]:=Blk.new wq2 25 #[i64 0,.string ⟨#[]⟩,.string ⟨#[]⟩,.string ⟨#[]⟩,.string ⟨#[]⟩,.slice none 0 0,i64 0,i64 0,i64 0,.slice none 0 0]
     have hgx:g < (wq2).heap.size:=by have:=hK.size; omega
     have hwx:w1.heap.size ≤ (wq2).heap.size:=hK.size
     have hR:Rdr (World.alloc wq2 (.cells #[i64 0,.string ⟨#[]⟩,.string ⟨#[]⟩,.string ⟨#[]⟩,.string ⟨#[]⟩,.slice none 0 0,i64 0,i64 0,i64 0,.slice none 0 0] 25)) g _ _ F:=hR.nw ((Kp.refl (fun _ => False) wq2).alloc (.cells #[i64 0,.string ⟨#[]⟩,.string ⟨#[]⟩,.string ⟨#[]⟩,.string ⟨#[]⟩,.slice none 0 0,i64 0,i64 0,i64 0,.slice none 0 0] 25))
     have hK:Kp (At g) w1 (World.alloc wq2 (.cells #[i64 0,.string ⟨#[]⟩,.string ⟨#[]⟩,.string ⟨#[]⟩,.string ⟨#[]⟩,.slice none 0 0,i64 0,i64 0,i64 0,.slice none 0 0] 25)):=hK.trans kal fun _ _ h => h
     clear kal
     generalize World.alloc wq2 (.cells #[i64 0,.string ⟨#[]⟩,.string ⟨#[]⟩,.string ⟨#[]⟩,.string ⟨#[]⟩,.slice none 0 0,i64 0,i64 0,i64 0,.slice none 0 0] 25) = wA at *
     generalize (wq2).heap.size = x at *
     refine call (s2 _ hR) ?_
     rintro v wq9 ⟨⟨X2,x2,rfl,c2,d2⟩,hR,kq9⟩
     have hx:=hx.kp kq9 fun (e:x = g) => by omega
     have hK:=hK.trans kq9 fun _ _ h => h
     refine ⟨.inr kq9,?_⟩
     simp -dsimp [go_sem,c2]
     refine ⟨d2,?_⟩
     refine call (s3 _ hR) ?_
     rintro v wq10 ⟨⟨X3,x3,rfl,c3,d3⟩,hR,kq10⟩
     have hx:=hx.kp kq10 fun (e:x = g) => by omega
     have hK:=hK.trans kq10 fun _ _ h => h
     refine ⟨.inr kq10,?_⟩
     simp -dsimp [go_sem,c3]
     refine ⟨d3,?_⟩
     refine call (s4 _ hR) ?_
     rintro v wq11 ⟨⟨X4,x4,rfl,c4,d4⟩,hR,kq11⟩
     have hx:=hx.kp kq11 fun (e:x = g) => by omega
     have hK:=hK.trans kq11 fun _ _ h => h
     refine ⟨.inr kq11,?_⟩
     simp -dsimp [go_sem,c4]
     refine ⟨d4,?_⟩
     have d:=base _ _ _ hK hR x _ hx hwx
     have dd:=(((((((((d.set 0 (i64 a.1)).set 1 (str t1)).set 2 (str t2)).set 3 (str t3)).set 4 (str t4)).set 5 (.slice none 0 0)).set 6 (i64 0)).set 7 (i64 0)).set 8 (i64 0)).set 9 (.slice none 0 0)
     have z0:=hx.cell 0
     have z1:=hx.cell 1
     have z2:=hx.cell 2
     have z3:=hx.cell 3
     have z4:=hx.cell 4
     have z5:=hx.cell 5
     have z6:=hx.cell 6
     have z7:=hx.cell 7
     have z8:=hx.cell 8
     have z9:=hx.cell 9
     have f0:=hx.frozen 0
     have f1:=hx.frozen 1
     have f2:=hx.frozen 2
     have f3:=hx.frozen 3
     have f4:=hx.frozen 4
     have f5:=hx.frozen 5
     have f6:=hx.frozen 6
     have f7:=hx.frozen 7
     have f8:=hx.frozen 8
     have f9:=hx.frozen 9
     simp [go_sem]
     refine ⟨Kp.refl _ _,?_⟩
     simp -dsimp [go_sem,z0,z1,z2,z3,z4,z5,z6,z7,z8,z9,f0,f1,f2,f3,f4,f5,f6,f7,f8,f9]
     simpa using dd
   ·have hx:Blk (World.alloc wq1 (.cells #[i64 0,.string ⟨#[]⟩,.string ⟨#[]⟩,.string ⟨#[]⟩,.string ⟨#[]⟩,.slice none 0 0,i64 0,i64 0,i64 0,.slice none 0 0] 25)) (wq1).heap.size 25 #[i64 0,.string ⟨#[]⟩,.string ⟨#[]⟩,.string ⟨#[]⟩,.string ⟨#[]⟩,.slice none 0 0,i64 0,i64 0,i64 0,.slice none 0 0]:=Blk.new wq1 25 #[i64 0,.string ⟨#[]⟩,.string ⟨#[]⟩,.string ⟨#[]⟩,.string ⟨#[]⟩,.slice none 0 0,i64 0,i64 0,i64 0,.slice none 0 0]
    have hgx:g < (wq1).heap.size:=by have:=hK.size; omega
    have hwx:w1.heap.size ≤ (wq1).heap.size:=hK.size
    have hR:Rdr (World.alloc wq1 (.cells #[i64 0,.string ⟨#[]⟩,.string ⟨#[]⟩,.string ⟨#[]⟩,.string ⟨#[]⟩,.slice none 0 0,i64 0,i64 0,i64 0,.slice none 0 0] 25)) g _ _ F:=hR.nw ((Kp.refl (fun _ => False) wq1).alloc (.cells #[i64 0,.string ⟨#[]⟩,.string ⟨#[]⟩,.string ⟨#[]⟩,.string ⟨#[]⟩,.slice none 0 0,i64 0,i64 0,i64 0,.slice none 0 0] 25))
    have hK:Kp (At g) w1 (World.alloc wq1 (.cells #[i64 0,.string ⟨#[]⟩,.string ⟨#[]⟩,.string ⟨#[]⟩,.string ⟨#[]⟩,.slice none 0 0,i64 0,i64 0,i64 0,.slice none 0 0] 25)):=hK.trans kal fun _ _ h => h
    clear kal
    generalize World.alloc wq1 (.cells #[i64 0,.string ⟨#[]⟩,.string ⟨#[]⟩,.string ⟨#[]⟩,.string ⟨#[]⟩,.slice none 0 0,i64 0,i64 0,i64 0,.slice none 0 0] 25) = wA at *
    generalize (wq1).heap.size = x at *
    refine call (s1 _ hR) ?_
    rintro v wq12 ⟨⟨X1,x1,rfl,c1,d1⟩,hR,kq12⟩
    have hx:=hx.kp kq12 fun (e:x = g) => by omega
    have hK:=hK.trans kq12 fun _ _ h => h
    refine ⟨.inr kq12,?_⟩
    simp -dsimp [go_sem,c1]
    refine ⟨d1,?_⟩
    refine call (s2 _ hR) ?_
    rintro v wq13 ⟨⟨X2,x2,rfl,c2,d2⟩,hR,kq13⟩
    have hx:=hx.kp kq13 fun (e:x = g) => by omega
    have hK:=hK.trans kq13 fun _ _ h => h
    refine ⟨.inr kq13,?_⟩
    simp -dsimp [go_sem,c2]
    refine ⟨d2,?_⟩
    refine call (s3 _ hR) ?_
    rintro v wq14 ⟨⟨X3,x3,rfl,c3,d3⟩,hR,kq14⟩
    have hx:=hx.kp kq14 fun (e:x = g) => by omega
    have hK:=hK.trans kq14 fun _ _ h => h
    refine ⟨.inr kq14,?_⟩
    simp -dsimp [go_sem,c3]
    refine ⟨d3,?_⟩
    refine call (s4 _ hR) ?_
    rintro v wq15 ⟨⟨X4,x4,rfl,c4,d4⟩,hR,kq15⟩
    have hx:=hx.kp kq15 fun (e:x = g) => by omega
    have hK:=hK.trans kq15 fun _ _ h => h
    refine ⟨.inr kq15,?_⟩
    simp -dsimp [go_sem,c4]
    refine ⟨d4,?_⟩
    have d:=base _ _ _ hK hR x _ hx hwx
    have dd:=(((((((((d.set 0 (i64 a.1)).set 1 (str t1)).set 2 (str t2)).set 3 (str t3)).set 4 (str t4)).set 5 (.slice none 0 0)).set 6 (i64 0)).set 7 (i64 0)).set 8 (i64 0)).set 9 (.slice none 0 0)
    have z0:=hx.cell 0
    have z1:=hx.cell 1
    have z2:=hx.cell 2
    have z3:=hx.cell 3
    have z4:=hx.cell 4
    have z5:=hx.cell 5
    have z6:=hx.cell 6
    have z7:=hx.cell 7
    have z8:=hx.cell 8
    have z9:=hx.cell 9
    have f0:=hx.frozen 0
    have f1:=hx.frozen 1
    have f2:=hx.frozen 2
    have f3:=hx.frozen 3
    have f4:=hx.frozen 4
    have f5:=hx.frozen 5
    have f6:=hx.frozen 6
    have f7:=hx.frozen 7
    have f8:=hx.frozen 8
    have f9:=hx.frozen 9
    simp [go_sem]
    refine ⟨Kp.refl _ _,?_⟩
    simp -dsimp [go_sem,z0,z1,z2,z3,z4,z5,z6,z7,z8,z9,f0,f1,f2,f3,f4,f5,f6,f7,f8,f9]
    simpa using dd
  ·have hx:Blk ((World.alloc w1 (.cells #[i64 0,.string ⟨#[]⟩,.string ⟨#[]⟩,.string ⟨#[]⟩,.string ⟨#[]⟩,.slice none 0 0,i64 0,i64 0,i64 0,.slice none 0 0] 25)).drew) (w1).heap.size 25 #[i64 0,.string ⟨#[]⟩,.string ⟨#[]⟩,.string ⟨#[]⟩,.string ⟨#[]⟩,.slice none 0 0,i64 0,i64 0,i64 0,.slice none 0 0]:=Blk.new w1.drew 25 #[i64 0,.string ⟨#[]⟩,.string ⟨#[]⟩,.string ⟨#[]⟩,.string ⟨#[]⟩,.slice none 0 0,i64 0,i64 0,i64 0,.slice none 0 0]
   have hgx:g < w1.heap.size:=hgl.2
   have hwx:w1.heap.size ≤ (w1).heap.size:=Nat.le_refl _
   have hR:Rdr ((World.alloc w1 (.cells #[i64 0,.string ⟨#[]⟩,.string ⟨#[]⟩,.string ⟨#[]⟩,.string ⟨#[]⟩,.slice none 0 0,i64 0,i64 0,i64 0,.slice none 0 0] 25)).drew) g _ _ F:=hR.nw ((Kp.refl (fun _ => False) w1.drew).alloc (.cells #[i64 0,.string ⟨#[]⟩,.string ⟨#[]⟩,.string ⟨#[]⟩,.string ⟨#[]⟩,.slice none 0 0,i64 0,i64 0,i64 0,.slice none 0 0] 25))
   have hK:Kp (At g) w1 ((World.alloc w1 (.cells #[i64 0,.string ⟨#[]⟩,.string ⟨#[]⟩,.string ⟨#[]⟩,.string ⟨#[]⟩,.slice none 0 0,i64 0,i64 0,i64 0,.slice none 0 0] 25)).drew):=hK.trans kal fun _ _ h => h
   clear kal
   generalize (World.alloc w1 (.cells #[i64 0,.string ⟨#[]⟩,.string ⟨#[]⟩,.string ⟨#[]⟩,.string ⟨#[]⟩,.slice none 0 0,i64 0,i64 0,i64 0,.slice none 0 0] 25)).drew = wA at *
   generalize (w1).heap.size = x at *
   refine call (sN _ hR) ?_
   rintro v wq16 ⟨rfl,hR,kq16⟩
   have hx:=hx.kp kq16 fun (e:x = g) => by omega
   have hK:=hK.trans kq16 fun _ _ h => h
   refine ⟨.inr kq16,?_⟩
   simp -dsimp [go_sem]
   refine call (s1 _ hR) ?_
   rintro v wq17 ⟨⟨X1,x1,rfl,c1,d1⟩,hR,kq17⟩
   have hx:=hx.kp kq17 fun (e:x = g) => by omega
   have hK:=hK.trans kq17 fun _ _ h => h
   refine ⟨.inr kq17,?_⟩
   simp -dsimp [go_sem,c1]
   refine ⟨d1,?_⟩
   refine call (s2 _ hR) ?_
   rintro v wq18 ⟨⟨X2,x2,rfl,c2,d2⟩,hR,kq18⟩
   have hx:=hx.kp kq18 fun (e:x = g) => by omega
   have hK:=hK.trans kq18 fun _ _ h => h
   refine ⟨.inr kq18,?_⟩
   simp -dsimp [go_sem,c2]
   refine ⟨d2,?_⟩
   refine call (s3 _ hR) ?_
   rintro v wq19 ⟨⟨X3,x3,rfl,c3,d3⟩,hR,kq19⟩
   have hx:=hx.kp kq19 fun (e:x = g) => by omega
   have hK:=hK.trans kq19 fun _ _ h => h
   refine ⟨.inr kq19,?_⟩
   simp -dsimp [go_sem,c3]
   refine ⟨d3,?_⟩
   refine call (s4 _ hR) ?_
   rintro v wq20 ⟨⟨X4,x4,rfl,c4,d4⟩,hR,kq20⟩
   have hx:=hx.kp kq20 fun (e:x = g) => by omega
   have hK:=hK.trans kq20 fun _ _ h => h
   refine ⟨.inr kq20,?_⟩
   simp -dsimp [go_sem,c4]
   refine ⟨d4,?_⟩
   have d:=base _ _ _ hK hR x _ hx hwx
   have dd:=(((((((((d.set 0 (i64 a.1)).set 1 (str t1)).set 2 (str t2)).set 3 (str t3)).set 4 (str t4)).set 5 (.slice none 0 0)).set 6 (i64 0)).set 7 (i64 0)).set 8 (i64 0)).set 9 (.slice none 0 0)
   have z0:=hx.cell 0
   have z1:=hx.cell 1
   have z2:=hx.cell 2
   have z3:=hx.cell 3
   have z4:=hx.cell 4
   have z5:=hx.cell 5
   have z6:=hx.cell 6
   have z7:=hx.cell 7
   have z8:=hx.cell 8
   have z9:=hx.cell 9
   have f0:=hx.frozen 0
   have f1:=hx.frozen 1
   have f2:=hx.frozen 2
   have f3:=hx.frozen 3
   have f4:=hx.frozen 4
   have f5:=hx.frozen 5
   have f6:=hx.frozen 6
   have f7:=hx.frozen 7
   have f8:=hx.frozen 8
   have f9:=hx.frozen 9
   simp [go_sem]
   refine ⟨Kp.refl _ _,?_⟩
   simp -dsimp [go_sem,z0,z1,z2,z3,z4,z5,z6,z7,z8,z9,f0,f1,f2,f3,f4,f5,f6,f7,f8,f9]
   simpa using dd
 ·rintro f w3 ⟨f2,f4,x,f5,d⟩
  simp -dsimp [go_sem,f4]
  refine call (d.num (by omega)) ?_
  rintro v w4 ⟨rfl,d,k4⟩
  have lq:=numL_len b4.2.1 b4.2.2
  have bq:=numL_le b4.2.1 b4.2.2
  obtain ⟨q,hq⟩:∃ q,numL b4.2.1 b4.2.2 = q:=⟨_,rfl⟩
  rw [hq] at lq bq d ⊢
  obtain ⟨n,hn⟩:∃ n:Nat,n = q.1:=⟨_,rfl⟩
  rw [← hn] at bq ⊢
  obtain ⟨B0,hB0⟩:∃ B0,B0 = x + 1:=⟨_,rfl⟩
  have hB08:B0 ≤ w4.heap.size:=by have:=d.bx.lt; omega
  generalize hl2:q.2.1 = l2 at *
  generalize hbad2:q.2.2 = bad2 at *
  simp -dsimp [go_sem]
  refine loop [6,26,27,28,29,30,31,32,33,34,35,36,37,38,39,40] (by kernel_rfl)
   (fun f w' => Box1 (fun a' w' => ∃ (k:Nat) (L:List Int) (l:List UInt8) (bad:Bool) (vU:Value),a' = i64 k ∧ k ≤ n ∧ Dy w w' x r0 g #[i64 a.1,str t1,str t2,str t3,str t4,vU,i64 0,i64 0,i64 0,.slice none 0 0] l bad F ∧ Gs w' 3 1 vU L.length (L.map i64) B0 ∧ uidL n l2 bad2 [] = uidL k l bad L ∧ (∀ z ∈ L,0 ≤ z ∧ z ≤ 4611686018427387904) ∧ L.length ≤ p.length + 1 ∧ (bad = false → L.length + l.length ≤ p.length) ∧ l.length ≤ p.length ∧ B0 ≤ w'.heap.size) (f 6) w') (fun f _ => (intOf (f 6)).toNat)
   ⟨n,[],l2,bad2,_,rfl,Nat.le_refl _,d,Gs.nil _ _ _ _,rfl,by simp,by simp,fun _ => by simp; omega,by omega,hB08⟩ ?_
  clear d
  rintro f' w7 ⟨k,L,l,bad,vU,f6,hkn,d,hG,hE,hLb,hL1,hL2,hL3,hB7⟩
  have ht:txt4 a.2.1 a.2.2 = ((t1,t2,t3,t4),b4.2):=by
   unfold txt4
   rw [hb1,hb2,hb3,hb4,ht1,ht2,ht3,ht4]
  have hxB:=d.hx
  by_cases hk0:k = 0
  ·subst hk0
   have hE:uidL n l2 bad2 [] = (L,l,bad):=hE
   simp -dsimp [go_sem,f6,f4,f5]
   have a3:Nw w7 (w7.alloc (.cells #[.pointer (some ⟨x,6,none⟩),.pointer (some ⟨x,7,none⟩),.pointer (some ⟨x,8,none⟩)] 82)):=(Kp.refl _ _).alloc _
   have hs0:=Blk.new w7 82 #[.pointer (some ⟨x,6,none⟩),.pointer (some ⟨x,7,none⟩),.pointer (some ⟨x,8,none⟩)]
   have hxl:=d.bx.lt
   have d:=d.nw a3
   have hG:=hG.nw a3
   generalize w7.alloc (.cells #[.pointer (some ⟨x,6,none⟩),.pointer (some ⟨x,7,none⟩),.pointer (some ⟨x,8,none⟩)] 82) = w8 at *
   generalize hsz:w7.heap.size = sl at *
   obtain ⟨m,hm⟩:∃ m:Nat,(numL l bad).1 = m:=⟨_,rfl⟩
   obtain ⟨fl,hfl⟩:∃ m:Nat,(nm2 l bad).1 = m:=⟨_,rfl⟩
   obtain ⟨dt,hdt⟩:∃ m:Nat,(nm3 l bad).1 = m:=⟨_,rfl⟩
   let Q:Nat → World → Prop:=fun i w' => Blk w' x 25 #[i64 a.1,str t1,str t2,str t3,str t4,vU,i64 (if 0 < i then (m:Int) else 0),i64 (if 1 < i then (fl:Int) else 0),i64 (if 2 < i then (dt:Int) else 0),.slice none 0 0]
   refine call (nums_gen g sl x 6 x 7 x 8 82 l bad F (fun k => k = x) w8 Q d.rd (by omega) hs0 (fun e => by have:=d.fx sl e; omega) (by omega) (fun i hi e => by have:=d.fx i hi; omega) rfl rfl rfl d.bx
    (fun i u1 u2 hq hk => Blk.kp hq hk fun (e:x = g) => by omega)
    (fun u1 hq => ⟨⟨_,Blk.cell hq 6⟩,Blk.frozen hq 6,by
     have:=Blk.set hq 6 (i64 (numL l bad).1)
     show Blk _ _ _ _
     simpa [hm] using this⟩)
    (fun u1 hq => ⟨⟨_,Blk.cell hq 7⟩,Blk.frozen hq 7,by
     have:=Blk.set hq 7 (i64 (nm2 l bad).1)
     show Blk _ _ _ _
     simpa [hfl] using this⟩)
    (fun u1 hq => ⟨⟨_,Blk.cell hq 8⟩,Blk.frozen hq 8,by
     have:=Blk.set hq 8 (i64 (nm3 l bad).1)
     show Blk _ _ _ _
     simpa [hdt] using this⟩)) ?_
   rintro v w9 ⟨rfl,hx9,hR9,hk9⟩
   have hx9:Blk w9 x 25 #[i64 a.1,str t1,str t2,str t3,str t4,vU,i64 m,i64 fl,i64 dt,.slice none 0 0]:=hx9
   have hr0g:=d.hr
   have hgx9:=d.hx
   have hnr:=d.new
   have d:Dy w w9 x r0 g #[i64 a.1,str t1,str t2,str t3,str t4,vU,i64 m,i64 fl,i64 dt,.slice none 0 0] (nm3 l bad).2.1 (nm3 l bad).2.2 F :=
    ⟨hx9,d.br.kp hk9 fun e => by omega,hR9,d.on.at_ hk9 fun k e => by omega,d.fx,d.hx,d.hr,d.new⟩
   have hG:=hG.kp hk9 fun i hi _ e => by omega
   have lx3:=nm3_len l bad
   simp -dsimp [go_sem,f4,f5]
   refine call (d.bytes (by omega)) ?_
   rintro v w14 ⟨hBq,d,k14⟩
   have lx4:=bytL_size (nm3 l bad).2.1 (nm3 l bad).2.2
   obtain ⟨bb,hbb⟩:∃ b,bytL (nm3 l bad).2.1 (nm3 l bad).2.2 = b:=⟨_,rfl⟩
   rw [hbb] at lx4 d hBq
   obtain ⟨bd,hbd⟩:∃ b,bb.1 = b:=⟨_,rfl⟩
   rw [hbd] at lx4 hBq
   obtain ⟨X,xc,rfl,hoX,hX⟩:=hBq
   have y9:=d.bx.cell 9
   have z9:=d.bx.frozen 9
   have d:Dy w (w14.setCell ⟨x,9,none⟩ (.slice X bd.length xc)) x r0 g #[i64 a.1,str t1,str t2,str t3,str t4,vU,i64 m,i64 fl,i64 dt,.slice X bd.length xc] bb.2.1 bb.2.2 F:=by simpa using d.set 9 (.slice X bd.length xc)
   have ks:Kp (At x) w14 (w14.setCell ⟨x,9,none⟩ (.slice X bd.length xc)):=(Kp.refl _ _).setCell_at _ _
   have hG:=(hG.kp k14 fun i hi _ (e:i = g) => by omega).kp ks fun i hi _ (e:i = x) => by omega
   have hx9':x < w9.heap.size:=hx9.lt
   have hoX:=hoX.kp ks fun a ha (e:a.block = x) => by have:=hX a ha; omega
   simp -dsimp [go_sem,f4,f5,y9,z9]
   generalize w14.setCell ⟨x,9,none⟩ (.slice X bd.length xc) = w15 at *
   obtain ⟨U5,u5,rfl,hoU,hU5⟩:=hG
   obtain ⟨C,hC⟩:∃ C:Chg,C = ⟨a.1,t1,t2,t3,t4,L,m,fl,dt,bd⟩:=⟨_,rfl⟩
   have hRC:RC w15 (.agg #[i64 a.1,str t1,str t2,str t3,str t4,.slice U5 L.length u5,i64 m,i64 fl,i64 dt,.slice X bd.length xc]) C (fun _ => False):=by rw [hC]; exact ⟨U5,u5,X,xc,rfl,hoU.2.1,hoX.2.1,hoU.rd,fun _ _ _ h => h,hoX.rd,fun _ _ _ h => h⟩
   have tl1:t1.length = b1.1.length:=by rw [ht1]
   have tl2:t2.length = b2.1.length:=by rw [ht2]
   have tl3:t3.length = b3.1.length:=by rw [ht3]
   have tl4:t4.length = b4.1.length:=by rw [ht4]
   have hCs:CSz C:=by rw [hC]; exact ⟨by simp only; omega,by simp only; omega,by simp only; omega,by simp only; omega,by simp only; omega,by simp only; omega,fun n hn => by have:=hLb n hn; omega⟩
   have er:chRead p = (C,bb.2):=by
    have hy:=tailN_eq (n:=n) hE hm hfl rfl hbb
    have hy2:tailN q.1 q.2.1 q.2.2 = tailMk (L,l,bad) m fl (nm3 l bad) bb:=by
     rw [← hn,hl2,hbad2]
     exact hy
    rw [chRead_eq ha ht ((tailL_eq hq).trans hy2),hC]
    unfold chMk tailMk
    simp only [hdt,hbd]
   have hokk:chDecOk p = ((!bb.2.2 && bb.2.1.isEmpty) && chgOk C):=by unfold chDecOk; rw [er]
   refine call (whole_spec g bb.2.1 bb.2.2 F w15 d.rd) ?_
   rintro v w17 ⟨rfl,rfl⟩
   have hbr:=d.br
   unfold zeroC at hbr
   have r0c:=hbr.cell 0
   have r1c:=hbr.cell 1
   have r2c:=hbr.cell 2
   have r3c:=hbr.cell 3
   have r4c:=hbr.cell 4
   have r5c:=hbr.cell 5
   have r6c:=hbr.cell 6
   have r7c:=hbr.cell 7
   have r8c:=hbr.cell 8
   have r9c:=hbr.cell 9
   have r0f:=hbr.frozen 0
   have r1f:=hbr.frozen 1
   have r2f:=hbr.frozen 2
   have r3f:=hbr.frozen 3
   have r4f:=hbr.frozen 4
   have r5f:=hbr.frozen 5
   have r6f:=hbr.frozen 6
   have r7f:=hbr.frozen 7
   have r8f:=hbr.frozen 8
   have r9f:=hbr.frozen 9
   cases hwh:(!bb.2.2 && bb.2.1.isEmpty) with
   | false =>
    rw [hwh] at hokk
    have hokk:chDecOk p = false:=hokk
    have hset:=set10 w15 r0
    have fin:∀ v0 v1 v2 v3 v4 v5 v6 v7 v8 v9,Nw w ((((((((((w15.setCell ⟨r0,0,none⟩ v0).setCell ⟨r0,1,none⟩ v1).setCell ⟨r0,2,none⟩ v2).setCell ⟨r0,3,none⟩ v3).setCell ⟨r0,4,none⟩ v4).setCell ⟨r0,5,none⟩ v5).setCell ⟨r0,6,none⟩ v6).setCell ⟨r0,7,none⟩ v7).setCell ⟨r0,8,none⟩ v8).setCell ⟨r0,9,none⟩ v9):=fun _ _ _ _ _ _ _ _ _ _ => d.on.at_ (hset _ _ _ _ _ _ _ _ _ _) fun k (e:k = r0) => by omega
    simp -dsimp [go_sem,f2,r0c,r1c,r2c,r3c,r4c,r5c,r6c,r7c,r8c,r9c,r0f,r1f,r2f,r3f,r4f,r5f,r6f,r7f,r8f,r9f]
    exact ⟨.inr ⟨hokk,rfl⟩,fin _ _ _ _ _ _ _ _ _ _⟩
   | true =>
    rw [hwh] at hokk
    have hokk:chDecOk p = chgOk C:=by rw [hokk]; rfl
    have y0:=d.bx.cell 0
    have y1:=d.bx.cell 1
    have y2:=d.bx.cell 2
    have y3:=d.bx.cell 3
    have y4:=d.bx.cell 4
    have y5:=d.bx.cell 5
    have y6:=d.bx.cell 6
    have y7:=d.bx.cell 7
    have y8:=d.bx.cell 8
    have y9:=d.bx.cell 9
    clear r0c r1c r2c r3c r4c r5c r6c r7c r8c r9c r0f r1f r2f r3f r4f r5f r6f r7f r8f r9f
    simp -dsimp [go_sem,f5,y0,y1,y2,y3,y4,y5,y6,y7,y8,y9]
    refine call (isChangeZ _ C w15 hRC hCs) ?_
    rintro v w16 ⟨rfl,k16⟩
    have d:=d.nw k16
    have x0c:=d.bx.cell 0
    have x1c:=d.bx.cell 1
    have x2c:=d.bx.cell 2
    have x3c:=d.bx.cell 3
    have x4c:=d.bx.cell 4
    have x5c:=d.bx.cell 5
    have x6c:=d.bx.cell 6
    have x7c:=d.bx.cell 7
    have x8c:=d.bx.cell 8
    have x9c:=d.bx.cell 9
    have hbr:=d.br
    unfold zeroC at hbr
    have r0c:=hbr.cell 0
    have r1c:=hbr.cell 1
    have r2c:=hbr.cell 2
    have r3c:=hbr.cell 3
    have r4c:=hbr.cell 4
    have r5c:=hbr.cell 5
    have r6c:=hbr.cell 6
    have r7c:=hbr.cell 7
    have r8c:=hbr.cell 8
    have r9c:=hbr.cell 9
    have r0f:=hbr.frozen 0
    have r1f:=hbr.frozen 1
    have r2f:=hbr.frozen 2
    have r3f:=hbr.frozen 3
    have r4f:=hbr.frozen 4
    have r5f:=hbr.frozen 5
    have r6f:=hbr.frozen 6
    have r7f:=hbr.frozen 7
    have r8f:=hbr.frozen 8
    have r9f:=hbr.frozen 9
    have hset:=set10 w16 r0
    have fin:∀ v0 v1 v2 v3 v4 v5 v6 v7 v8 v9,Nw w ((((((((((w16.setCell ⟨r0,0,none⟩ v0).setCell ⟨r0,1,none⟩ v1).setCell ⟨r0,2,none⟩ v2).setCell ⟨r0,3,none⟩ v3).setCell ⟨r0,4,none⟩ v4).setCell ⟨r0,5,none⟩ v5).setCell ⟨r0,6,none⟩ v6).setCell ⟨r0,7,none⟩ v7).setCell ⟨r0,8,none⟩ v8).setCell ⟨r0,9,none⟩ v9):=fun _ _ _ _ _ _ _ _ _ _ => d.on.at_ (hset _ _ _ _ _ _ _ _ _ _) fun k (e:k = r0) => by omega
    cases hck:chgOk C with
    | false =>
     rw [hck] at hokk
     simp -dsimp [go_sem,f2,r0c,r1c,r2c,r3c,r4c,r5c,r6c,r7c,r8c,r9c,r0f,r1f,r2f,r3f,r4f,r5f,r6f,r7f,r8f,r9f]
     exact ⟨.inr ⟨hokk,rfl⟩,fin _ _ _ _ _ _ _ _ _ _⟩
    | true =>
     rw [hck] at hokk
     simp -dsimp [go_sem,f2,f5,x0c,x1c,x2c,x3c,x4c,x5c,x6c,x7c,x8c,x9c,r0c,r1c,r2c,r3c,r4c,r5c,r6c,r7c,r8c,r9c,r0f,r1f,r2f,r3f,r4f,r5f,r6f,r7f,r8f,r9f]
     refine ⟨.inl ⟨hokk,_,rfl,?_⟩,fin _ _ _ _ _ _ _ _ _ _⟩
     rw [er]
     have hoU2:=(hoU.nw k16).kp (hset (i64 a.1) (str t1) (str t2) (str t3) (str t4) (.slice U5 L.length u5) (i64 m) (i64 fl) (i64 dt) (.slice X bd.length xc)) fun b hb (e:b.block = r0) => by have:=hU5 b hb; omega
     have hoX2:=(hoX.nw k16).kp (hset (i64 a.1) (str t1) (str t2) (str t3) (str t4) (.slice U5 L.length u5) (i64 m) (i64 fl) (i64 dt) (.slice X bd.length xc)) fun b hb (e:b.block = r0) => by have:=hX b hb; omega
     show RC _ _ C _
     rw [hC]
     exact ⟨U5,u5,X,xc,rfl,hoU2.2.1,hoX2.2.1,hoU2.rd,fun b hb _ (e:b.block < r0) => by have:=hU5 b hb; omega,hoX2.rd,fun b hb _ (e:b.block < r0) => by have:=hX b hb; omega⟩
  have hkp:0 < k:=by omega
  have hkp':(0:Int) < (k:Int):=by omega
  cases bad with
  | true =>
   have hE:uidL n l2 bad2 [] = (L,l,true):=by
    rw [hE]
    obtain ⟨k1,hk1e⟩:∃ k1,k = k1 + 1:=⟨k - 1,by omega⟩
    rw [hk1e]; simp [uidL]
   simp -dsimp [go_sem,f6,f4,hkp,hkp']
   refine call (good_spec g l true F w7 d.rd) ?_
   rintro v w8 ⟨rfl,rfl⟩
   simp -dsimp [go_sem,f6,f4,f5]
   have a3:Nw w7 (w7.alloc (.cells #[.pointer (some ⟨x,6,none⟩),.pointer (some ⟨x,7,none⟩),.pointer (some ⟨x,8,none⟩)] 82)):=(Kp.refl _ _).alloc _
   have hs0:=Blk.new w7 82 #[.pointer (some ⟨x,6,none⟩),.pointer (some ⟨x,7,none⟩),.pointer (some ⟨x,8,none⟩)]
   have hxl:=d.bx.lt
   have d:=d.nw a3
   have hG:=hG.nw a3
   generalize w7.alloc (.cells #[.pointer (some ⟨x,6,none⟩),.pointer (some ⟨x,7,none⟩),.pointer (some ⟨x,8,none⟩)] 82) = w8 at *
   generalize hsz:w7.heap.size = sl at *
   obtain ⟨m,hm⟩:∃ m:Nat,(numL l true).1 = m:=⟨_,rfl⟩
   obtain ⟨fl,hfl⟩:∃ m:Nat,(nm2 l true).1 = m:=⟨_,rfl⟩
   obtain ⟨dt,hdt⟩:∃ m:Nat,(nm3 l true).1 = m:=⟨_,rfl⟩
   let Q:Nat → World → Prop:=fun i w' => Blk w' x 25 #[i64 a.1,str t1,str t2,str t3,str t4,vU,i64 (if 0 < i then (m:Int) else 0),i64 (if 1 < i then (fl:Int) else 0),i64 (if 2 < i then (dt:Int) else 0),.slice none 0 0]
   refine call (nums_gen g sl x 6 x 7 x 8 82 l true F (fun k => k = x) w8 Q d.rd (by omega) hs0 (fun e => by have:=d.fx sl e; omega) (by omega) (fun i hi e => by have:=d.fx i hi; omega) rfl rfl rfl d.bx
    (fun i u1 u2 hq hk => Blk.kp hq hk fun (e:x = g) => by omega)
    (fun u1 hq => ⟨⟨_,Blk.cell hq 6⟩,Blk.frozen hq 6,by
     have:=Blk.set hq 6 (i64 (numL l true).1)
     show Blk _ _ _ _
     simpa [hm] using this⟩)
    (fun u1 hq => ⟨⟨_,Blk.cell hq 7⟩,Blk.frozen hq 7,by
     have:=Blk.set hq 7 (i64 (nm2 l true).1)
     show Blk _ _ _ _
     simpa [hfl] using this⟩)
    (fun u1 hq => ⟨⟨_,Blk.cell hq 8⟩,Blk.frozen hq 8,by
     have:=Blk.set hq 8 (i64 (nm3 l true).1)
     show Blk _ _ _ _
     simpa [hdt] using this⟩)) ?_
   rintro v w9 ⟨rfl,hx9,hR9,hk9⟩
   have hx9:Blk w9 x 25 #[i64 a.1,str t1,str t2,str t3,str t4,vU,i64 m,i64 fl,i64 dt,.slice none 0 0]:=hx9
   have hr0g:=d.hr
   have hgx9:=d.hx
   have hnr:=d.new
   have d:Dy w w9 x r0 g #[i64 a.1,str t1,str t2,str t3,str t4,vU,i64 m,i64 fl,i64 dt,.slice none 0 0] (nm3 l true).2.1 (nm3 l true).2.2 F :=
    ⟨hx9,d.br.kp hk9 fun e => by omega,hR9,d.on.at_ hk9 fun k e => by omega,d.fx,d.hx,d.hr,d.new⟩
   have hG:=hG.kp hk9 fun i hi _ e => by omega
   have lx3:=nm3_len l true
   simp -dsimp [go_sem,f4,f5]
   refine call (d.bytes (by omega)) ?_
   rintro v w14 ⟨hBq,d,k14⟩
   have lx4:=bytL_size (nm3 l true).2.1 (nm3 l true).2.2
   obtain ⟨bb,hbb⟩:∃ b,bytL (nm3 l true).2.1 (nm3 l true).2.2 = b:=⟨_,rfl⟩
   rw [hbb] at lx4 d hBq
   obtain ⟨bd,hbd⟩:∃ b,bb.1 = b:=⟨_,rfl⟩
   rw [hbd] at lx4 hBq
   obtain ⟨X,xc,rfl,hoX,hX⟩:=hBq
   have y9:=d.bx.cell 9
   have z9:=d.bx.frozen 9
   have d:Dy w (w14.setCell ⟨x,9,none⟩ (.slice X bd.length xc)) x r0 g #[i64 a.1,str t1,str t2,str t3,str t4,vU,i64 m,i64 fl,i64 dt,.slice X bd.length xc] bb.2.1 bb.2.2 F:=by simpa using d.set 9 (.slice X bd.length xc)
   have ks:Kp (At x) w14 (w14.setCell ⟨x,9,none⟩ (.slice X bd.length xc)):=(Kp.refl _ _).setCell_at _ _
   have hG:=(hG.kp k14 fun i hi _ (e:i = g) => by omega).kp ks fun i hi _ (e:i = x) => by omega
   have hx9':x < w9.heap.size:=hx9.lt
   have hoX:=hoX.kp ks fun a ha (e:a.block = x) => by have:=hX a ha; omega
   simp -dsimp [go_sem,f4,f5,y9,z9]
   generalize w14.setCell ⟨x,9,none⟩ (.slice X bd.length xc) = w15 at *
   obtain ⟨U5,u5,rfl,hoU,hU5⟩:=hG
   obtain ⟨C,hC⟩:∃ C:Chg,C = ⟨a.1,t1,t2,t3,t4,L,m,fl,dt,bd⟩:=⟨_,rfl⟩
   have hRC:RC w15 (.agg #[i64 a.1,str t1,str t2,str t3,str t4,.slice U5 L.length u5,i64 m,i64 fl,i64 dt,.slice X bd.length xc]) C (fun _ => False):=by rw [hC]; exact ⟨U5,u5,X,xc,rfl,hoU.2.1,hoX.2.1,hoU.rd,fun _ _ _ h => h,hoX.rd,fun _ _ _ h => h⟩
   have tl1:t1.length = b1.1.length:=by rw [ht1]
   have tl2:t2.length = b2.1.length:=by rw [ht2]
   have tl3:t3.length = b3.1.length:=by rw [ht3]
   have tl4:t4.length = b4.1.length:=by rw [ht4]
   have hCs:CSz C:=by rw [hC]; exact ⟨by simp only; omega,by simp only; omega,by simp only; omega,by simp only; omega,by simp only; omega,by simp only; omega,fun n hn => by have:=hLb n hn; omega⟩
   have er:chRead p = (C,bb.2):=by
    have hy:=tailN_eq (n:=n) hE hm hfl rfl hbb
    have hy2:tailN q.1 q.2.1 q.2.2 = tailMk (L,l,true) m fl (nm3 l true) bb:=by
     rw [← hn,hl2,hbad2]
     exact hy
    rw [chRead_eq ha ht ((tailL_eq hq).trans hy2),hC]
    unfold chMk tailMk
    simp only [hdt,hbd]
   have hokk:chDecOk p = ((!bb.2.2 && bb.2.1.isEmpty) && chgOk C):=by unfold chDecOk; rw [er]
   refine call (whole_spec g bb.2.1 bb.2.2 F w15 d.rd) ?_
   rintro v w17 ⟨rfl,rfl⟩
   have hbr:=d.br
   unfold zeroC at hbr
   have r0c:=hbr.cell 0
   have r1c:=hbr.cell 1
   have r2c:=hbr.cell 2
   have r3c:=hbr.cell 3
   have r4c:=hbr.cell 4
   have r5c:=hbr.cell 5
   have r6c:=hbr.cell 6
   have r7c:=hbr.cell 7
   have r8c:=hbr.cell 8
   have r9c:=hbr.cell 9
   have r0f:=hbr.frozen 0
   have r1f:=hbr.frozen 1
   have r2f:=hbr.frozen 2
   have r3f:=hbr.frozen 3
   have r4f:=hbr.frozen 4
   have r5f:=hbr.frozen 5
   have r6f:=hbr.frozen 6
   have r7f:=hbr.frozen 7
   have r8f:=hbr.frozen 8
   have r9f:=hbr.frozen 9
   cases hwh:(!bb.2.2 && bb.2.1.isEmpty) with
   | false =>
    rw [hwh] at hokk
    have hokk:chDecOk p = false:=hokk
    have hset:=set10 w15 r0
    have fin:∀ v0 v1 v2 v3 v4 v5 v6 v7 v8 v9,Nw w ((((((((((w15.setCell ⟨r0,0,none⟩ v0).setCell ⟨r0,1,none⟩ v1).setCell ⟨r0,2,none⟩ v2).setCell ⟨r0,3,none⟩ v3).setCell ⟨r0,4,none⟩ v4).setCell ⟨r0,5,none⟩ v5).setCell ⟨r0,6,none⟩ v6).setCell ⟨r0,7,none⟩ v7).setCell ⟨r0,8,none⟩ v8).setCell ⟨r0,9,none⟩ v9):=fun _ _ _ _ _ _ _ _ _ _ => d.on.at_ (hset _ _ _ _ _ _ _ _ _ _) fun k (e:k = r0) => by omega
    simp -dsimp [go_sem,f2,r0c,r1c,r2c,r3c,r4c,r5c,r6c,r7c,r8c,r9c,r0f,r1f,r2f,r3f,r4f,r5f,r6f,r7f,r8f,r9f]
    exact ⟨.inr ⟨hokk,rfl⟩,fin _ _ _ _ _ _ _ _ _ _⟩
   | true =>
    rw [hwh] at hokk
    have hokk:chDecOk p = chgOk C:=by rw [hokk]; rfl
    have y0:=d.bx.cell 0
    have y1:=d.bx.cell 1
    have y2:=d.bx.cell 2
    have y3:=d.bx.cell 3
    have y4:=d.bx.cell 4
    have y5:=d.bx.cell 5
    have y6:=d.bx.cell 6
    have y7:=d.bx.cell 7
    have y8:=d.bx.cell 8
    have y9:=d.bx.cell 9
    clear r0c r1c r2c r3c r4c r5c r6c r7c r8c r9c r0f r1f r2f r3f r4f r5f r6f r7f r8f r9f
    simp -dsimp [go_sem,f5,y0,y1,y2,y3,y4,y5,y6,y7,y8,y9]
    refine call (isChangeZ _ C w15 hRC hCs) ?_
    rintro v w16 ⟨rfl,k16⟩
    have d:=d.nw k16
    have x0c:=d.bx.cell 0
    have x1c:=d.bx.cell 1
    have x2c:=d.bx.cell 2
    have x3c:=d.bx.cell 3
    have x4c:=d.bx.cell 4
    have x5c:=d.bx.cell 5
    have x6c:=d.bx.cell 6
    have x7c:=d.bx.cell 7
    have x8c:=d.bx.cell 8
    have x9c:=d.bx.cell 9
    have hbr:=d.br
    unfold zeroC at hbr
    have r0c:=hbr.cell 0
    have r1c:=hbr.cell 1
    have r2c:=hbr.cell 2
    have r3c:=hbr.cell 3
    have r4c:=hbr.cell 4
    have r5c:=hbr.cell 5
    have r6c:=hbr.cell 6
    have r7c:=hbr.cell 7
    have r8c:=hbr.cell 8
    have r9c:=hbr.cell 9
    have r0f:=hbr.frozen 0
    have r1f:=hbr.frozen 1
    have r2f:=hbr.frozen 2
    have r3f:=hbr.frozen 3
    have r4f:=hbr.frozen 4
    have r5f:=hbr.frozen 5
    have r6f:=hbr.frozen 6
    have r7f:=hbr.frozen 7
    have r8f:=hbr.frozen 8
    have r9f:=hbr.frozen 9
    have hset:=set10 w16 r0
    have fin:∀ v0 v1 v2 v3 v4 v5 v6 v7 v8 v9,Nw w ((((((((((w16.setCell ⟨r0,0,none⟩ v0).setCell ⟨r0,1,none⟩ v1).setCell ⟨r0,2,none⟩ v2).setCell ⟨r0,3,none⟩ v3).setCell ⟨r0,4,none⟩ v4).setCell ⟨r0,5,none⟩ v5).setCell ⟨r0,6,none⟩ v6).setCell ⟨r0,7,none⟩ v7).setCell ⟨r0,8,none⟩ v8).setCell ⟨r0,9,none⟩ v9):=fun _ _ _ _ _ _ _ _ _ _ => d.on.at_ (hset _ _ _ _ _ _ _ _ _ _) fun k (e:k = r0) => by omega
    cases hck:chgOk C with
    | false =>
     rw [hck] at hokk
     simp -dsimp [go_sem,f2,r0c,r1c,r2c,r3c,r4c,r5c,r6c,r7c,r8c,r9c,r0f,r1f,r2f,r3f,r4f,r5f,r6f,r7f,r8f,r9f]
     exact ⟨.inr ⟨hokk,rfl⟩,fin _ _ _ _ _ _ _ _ _ _⟩
    | true =>
     rw [hck] at hokk
     simp -dsimp [go_sem,f2,f5,x0c,x1c,x2c,x3c,x4c,x5c,x6c,x7c,x8c,x9c,r0c,r1c,r2c,r3c,r4c,r5c,r6c,r7c,r8c,r9c,r0f,r1f,r2f,r3f,r4f,r5f,r6f,r7f,r8f,r9f]
     refine ⟨.inl ⟨hokk,_,rfl,?_⟩,fin _ _ _ _ _ _ _ _ _ _⟩
     rw [er]
     have hoU2:=(hoU.nw k16).kp (hset (i64 a.1) (str t1) (str t2) (str t3) (str t4) (.slice U5 L.length u5) (i64 m) (i64 fl) (i64 dt) (.slice X bd.length xc)) fun b hb (e:b.block = r0) => by have:=hU5 b hb; omega
     have hoX2:=(hoX.nw k16).kp (hset (i64 a.1) (str t1) (str t2) (str t3) (str t4) (.slice U5 L.length u5) (i64 m) (i64 fl) (i64 dt) (.slice X bd.length xc)) fun b hb (e:b.block = r0) => by have:=hX b hb; omega
     show RC _ _ C _
     rw [hC]
     exact ⟨U5,u5,X,xc,rfl,hoU2.2.1,hoX2.2.1,hoU2.rd,fun b hb _ (e:b.block < r0) => by have:=hU5 b hb; omega,hoX2.rd,fun b hb _ (e:b.block < r0) => by have:=hX b hb; omega⟩
  | false =>
   obtain ⟨k1,hk1e⟩:∃ k1,k = k1 + 1:=⟨k - 1,by omega⟩
   have hkm:IntKind.i64.wrap ((k:Int) - 1) = (k1:Int):=by rw [w64 (by omega) (by omega)]; omega
   have hE1:uidL k l false L = uidL k1 (numL l false).2.1 (numL l false).2.2 (L ++ [((numL l false).1:Int)]):=by rw [hk1e]; simp [uidL]
   rw [hE1] at hE
   have lx1:=numL_len l false
   have lu:=@numL_used l false
   have bm:=numL_le l false
   simp -dsimp [go_sem,f6,f4,hkp,hkp']
   refine call (good_spec g l false F w7 d.rd) ?_
   rintro v w8 ⟨rfl,rfl⟩
   have kd:Nw w7 w7.drew:=(Kp.refl _ _).drew
   have c5:=d.bx.cell 5
   have hxx:=d.bx.lt
   have hxB0:¬ (x = g ∨ B0 ≤ x):=by omega
   have d5:=(d.nw kd).bx.cell 5
   simp -dsimp [go_sem]
   refine drawD (.take 0 (.take 1 (.take 2 (.alt 3 (.alt 4 (.alt 5 (.take 6 (.alt 7 .done .stop)) .stop) .stop) .stop)))) 7 (by kernel_rfl) (fun wz => Kp (fun k => k = g ∨ B0 ≤ k) w7 wz) (Nw.kp kd _) ?_
   simp -dsimp [go_sem,d5,f4,f5]
   refine ⟨fun wz hz => by simp [hz.cell_some c5 hxB0],?_⟩
   refine call ((d.nw kd).num (by omega)) ?_
   rintro v w8 ⟨rfl,d8,k8⟩
   have kA:Kp (fun k => k = g ∨ B0 ≤ k) w7 w8:=(Nw.kp kd _).trans k8 fun i _ e => .inl e
   obtain ⟨m,hm⟩:∃ m:Nat,m = (numL l false).1:=⟨_,rfl⟩
   rw [← hm] at bm hE ⊢
   refine ⟨.inr kA,?_⟩
   simp -dsimp [go_sem]
   have ka1:Nw w8 (w8.alloc (.cells #[i64 m] 3)):=(Kp.refl _ _).alloc _
   have kB:Kp (fun k => k = g ∨ B0 ≤ k) w7 (w8.alloc (.cells #[i64 m] 3)):=kA.nw ka1
   refine ⟨kB,?_⟩
   have hG8:=((hG.nw kd).kp k8 fun i hi _ (e:i = g) => by omega).nw ka1
   have hB8:B0 ≤ (w8.alloc (.cells #[i64 m] 3)).heap.size:=by have:=kB.size; omega
   refine gs_app Tryz.Sint hG8 (Rd.fresh (xs:=[i64 m]) rfl rfl) (m:=1) (by simp) (by simp [Value.oneCell']) (by omega) (by omega) hB8 ?_
   rintro v' w10 hG10 k10
   have kC:Kp (fun k => k = g ∨ B0 ≤ k) w7 w10:=kB.trans k10 fun i _ e => .inr e
   have d10:=(d8.nw ka1).fr k10 (by omega)
   refine ⟨.inr kC,?_⟩
   have y5:=d10.bx.cell 5
   have z5:=d10.bx.frozen 5
   obtain ⟨U6,u6,rfl,hoU6,hU6⟩:=hG10
   have d11:Dy w (w10.setCell ⟨x,5,none⟩ (.slice U6 (L.length + 1) u6)) x r0 g #[i64 a.1,str t1,str t2,str t3,str t4,.slice U6 (L.length + 1) u6,i64 0,i64 0,i64 0,.slice none 0 0] (numL l false).2.1 (numL l false).2.2 F:=by simpa using d10.set 5 (.slice U6 (L.length + 1) u6)
   have ks:Kp (At x) w10 (w10.setCell ⟨x,5,none⟩ (.slice U6 (L.length + 1) u6)):=(Kp.refl _ _).setCell_at _ _
   have hoU7:=hoU6.kp ks fun a ha (e:a.block = x) => by have:=hU6 a ha; omega
   have hsz:B0 ≤ (w10.setCell ⟨x,5,none⟩ (.slice U6 (L.length + 1) u6)).heap.size:=by have:=kC.size; have:=ks.size; omega
   have hLl:=hL2 rfl
   simp -dsimp [go_sem,y5,z5,f6,hkm,f4,f5]
   refine ⟨⟨k1,L ++ [(m:Int)],_,_,_,rfl,by omega,d11,⟨U6,u6,by simp,by simpa using hoU7,hU6⟩,hE,fun z hz => ?_,by simp; omega,fun hb => by have:=(lu hb).1; simp; omega,by omega,hsz⟩,by simp [intOf]; omega⟩
   rcases List.mem_append.1 hz with hz | hz
   ·exact hLb z hz
   ·rw [List.mem_singleton.1 hz]
    omega
end Go.Proofs.YtellahclbhfdiaaGreatDoor
