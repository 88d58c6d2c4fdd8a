/-
  A change told: named, isNamed, isChange walked. By the session itself. A change told: isNamed, isChange walked. By the session itself.
-/
import Derived.Test.YtellahclbhfdiaaGreatDoorZ23
import Derived.Test.YtellahclbhfdiaaGreatDoorZ10
namespace Go.Proofs.YtellahclbhfdiaaGreatDoor
set_option linter.unusedSimpArgs false
set_option linter.unusedVariables false
set_option maxRecDepth 100000
set_option maxHeartbeats 1000000
open Go.Vc Go.RowKit
/-- A change without what its kind does not name. -/
def nameC (c:Chg):Chg :=
 if c.kind = 1 then ⟨c.kind,c.user,c.pass,[],[],[],0,0,0,[]⟩ else if c.kind = 4 then ⟨c.kind,c.user,[],c.box,c.to,[],0,0,0,[]⟩ else
 if c.kind = 5 then ⟨c.kind,c.user,[],c.box,[],[],0,c.flags,c.date,c.body⟩ else if c.kind = 6 then ⟨c.kind,c.user,[],c.box,[],c.uids,c.mode,c.flags,0,[]⟩ else
 if c.kind = 7 then ⟨c.kind,c.user,[],c.box,[],c.uids,0,0,0,[]⟩ else if c.kind = 8 then ⟨c.kind,c.user,[],c.box,c.to,c.uids,0,0,0,[]⟩ else ⟨c.kind,c.user,[],c.box,[],[],0,0,0,[]⟩
/-- Are they one, but for what lies in the slices? -/
def sameC (c x:Chg):Bool:=(c.box == x.box) && ((c.pass == x.pass) && ((c.to == x.to) && (((c.uids.length:Int) == (x.uids.length:Int)) && ((c.mode == x.mode) && ((c.flags == x.flags) && ((c.date == x.date) && ((c.body.length:Int) == (x.body.length:Int))))))))
theorem sameC_named (c:Chg):sameC c (nameC c) = namedOk c:=by
 have hl:∀ {α:Type} (l:List α),((l.length:Int) == 0) = decide (l = []):=fun l => by
  cases l with
  | nil => rfl
  | cons a l => simp; omega
 have he:∀ (l:Nm),l.isEmpty = decide (l = []):=fun l => by cases l <;> rfl
 have hz:∀ n:Int,(n == 0) = decide (n = 0):=fun n => rfl
 unfold sameC nameC namedOk toK manyK
 by_cases h1:c.kind = 1
 ·simp [h1,hl,he,hz]
 ·by_cases h4:c.kind = 4
  ·simp [h4,hl,he,hz]
  ·by_cases h5:c.kind = 5
   ·simp [h5,hl,he,hz]
   ·by_cases h6:c.kind = 6
    ·simp [h6,hl,he,hz]
    ·by_cases h7:c.kind = 7
     ·simp [h7,hl,he,hz]
     ·by_cases h8:c.kind = 8
      ·simp [h8,hl,he,hz]
      ·simp [h1,h4,h5,h6,h7,h8,hl,he,hz]
theorem set10 (w:World) (z:Nat) (v0 v1 v2 v3 v4 v5 v6 v7 v8 v9:Value):Kp (At z) w ((((((((((w.setCell ⟨z,0,none⟩ v0).setCell ⟨z,1,none⟩ v1).setCell ⟨z,2,none⟩ v2).setCell ⟨z,3,none⟩ v3).setCell ⟨z,4,none⟩ v4).setCell ⟨z,5,none⟩ v5).setCell ⟨z,6,none⟩ v6).setCell ⟨z,7,none⟩ v7).setCell ⟨z,8,none⟩ v8).setCell ⟨z,9,none⟩ v9) :=
 ((((((((((Kp.refl _ _).setCell_at _ _).setCell_at _ _).setCell_at _ _).setCell_at _ _).setCell_at _ _).setCell_at _ _).setCell_at _ _).setCell_at _ _).setCell_at _ _).setCell_at _ _
/-- A change, as a value. -/
def ChV (v:Value) (c:Chg):Prop:=∃ A ca B cb,v = .agg (chV c A ca B cb)
theorem named_spec (v:Value) (c:Chg) (w:World) (h:ChV v c):Cal Tryz.prog 141 #[v] w fun v' w' => ChV v' (nameC c) ∧ Nw w w':=by
 obtain ⟨A,ca,B,cb,rfl⟩:=h
 refine enter Tryz.mixed Tryz.func141 rfl (by kernel_rfl) ?_
 simp -dsimp [go_sem]
 obtain ⟨y,hy',hy,hb,hsz,n0⟩:=two_new w 25 25 (chV c A ca B cb) #[.int .i64 0,.string ⟨#[]⟩,.string ⟨#[]⟩,.string ⟨#[]⟩,.string ⟨#[]⟩,.slice none 0 0,.int .i64 0,.int .i64 0,.int .i64 0,.slice none 0 0]
 obtain ⟨z,hz'⟩:∃ z,z = y + 1:=⟨_,rfl⟩
 rw [← hz'] at hb
 rw [← hy',← hz']
 generalize (w.alloc (.cells (chV c A ca B cb) 25)).alloc (.cells #[.int .i64 0,.string ⟨#[]⟩,.string ⟨#[]⟩,.string ⟨#[]⟩,.string ⟨#[]⟩,.slice none 0 0,.int .i64 0,.int .i64 0,.int .i64 0,.slice none 0 0] 25) = wa at *
 have y0:=(hy).cell 0
 have y1:=(hy).cell 1
 have y2:=(hy).cell 2
 have y3:=(hy).cell 3
 have y4:=(hy).cell 4
 have y5:=(hy).cell 5
 have y6:=(hy).cell 6
 have y7:=(hy).cell 7
 have y8:=(hy).cell 8
 have y9:=(hy).cell 9
 simp [go_sem]
 have hx0:=Blk.new wa 25 #[i64 c.kind,str c.user,.string ⟨#[]⟩,str c.box,.string ⟨#[]⟩,.slice none 0 0,i64 0,i64 0,i64 0,.slice none 0 0]
 have ka:Nw wa (wa.alloc (.cells #[i64 c.kind,str c.user,.string ⟨#[]⟩,str c.box,.string ⟨#[]⟩,.slice none 0 0,i64 0,i64 0,i64 0,.slice none 0 0] 25)):=(Kp.refl _ _).alloc _
 have hsx:(wa.alloc (.cells #[i64 c.kind,str c.user,.string ⟨#[]⟩,str c.box,.string ⟨#[]⟩,.slice none 0 0,i64 0,i64 0,i64 0,.slice none 0 0] 25)).heap.size = wa.heap.size + 1:=by simp
 obtain ⟨x,hx'⟩:∃ x,x = wa.heap.size:=⟨_,rfl⟩
 rw [← hx'] at hx0 hsx
 clear y0 y1 y2 y3 y4 y5 y6 y7 y8 y9
 have hyx:=hy.lt
 have hzx:=hb.lt
 have hy:=hy.nw ka
 have hb:=hb.nw ka
 have n0:=n0.nw ka
 rw [← hx']
 generalize wa.alloc (.cells #[i64 c.kind,str c.user,.string ⟨#[]⟩,str c.box,.string ⟨#[]⟩,.slice none 0 0,i64 0,i64 0,i64 0,.slice none 0 0] 25) = wx at *
 have y0:=(hy).cell 0
 have y1:=(hy).cell 1
 have y2:=(hy).cell 2
 have y3:=(hy).cell 3
 have y4:=(hy).cell 4
 have y5:=(hy).cell 5
 have y6:=(hy).cell 6
 have y7:=(hy).cell 7
 have y8:=(hy).cell 8
 have y9:=(hy).cell 9
 have x0:=(hx0).cell 0
 have x1:=(hx0).cell 1
 have x2:=(hx0).cell 2
 have x3:=(hx0).cell 3
 have x4:=(hx0).cell 4
 have x5:=(hx0).cell 5
 have x6:=(hx0).cell 6
 have x7:=(hx0).cell 7
 have x8:=(hx0).cell 8
 have x9:=(hx0).cell 9
 have xf2:=hx0.frozen 2
 have xf3:=hx0.frozen 3
 have xf4:=hx0.frozen 4
 have xf5:=hx0.frozen 5
 have xf6:=hx0.frozen 6
 have xf7:=hx0.frozen 7
 have xf8:=hx0.frozen 8
 have xf9:=hx0.frozen 9
 have hyx:y ≠ x:=by omega
 have b0:=(hb).cell 0
 have b1:=(hb).cell 1
 have b2:=(hb).cell 2
 have b3:=(hb).cell 3
 have b4:=(hb).cell 4
 have b5:=(hb).cell 5
 have b6:=(hb).cell 6
 have b7:=(hb).cell 7
 have b8:=(hb).cell 8
 have b9:=(hb).cell 9
 have b0f:=(hb).frozen 0
 have b1f:=(hb).frozen 1
 have b2f:=(hb).frozen 2
 have b3f:=(hb).frozen 3
 have b4f:=(hb).frozen 4
 have b5f:=(hb).frozen 5
 have b6f:=(hb).frozen 6
 have b7f:=(hb).frozen 7
 have b8f:=(hb).frozen 8
 have b9f:=(hb).frozen 9
 by_cases k1:c.kind = 1
 ·have k1':(c.kind == 1) = true:=by simpa using k1
  have e:nameC c = ⟨c.kind,c.user,c.pass,[],[],[],0,0,0,[]⟩:=by unfold nameC; rw [if_pos k1]
  simp -dsimp [go_sem,y0,k1']
  refine draw (.take 0 (.take 1 (.take 2 (.alt 3 (.take 4 (.alt 5 .done .stop)) .stop)))) (by kernel_rfl) (fun wz => Kp (At x) wx wz) ((Kp.refl _ _).drew) ?_
  simp -dsimp [go_sem,y0,y1,y2,y3,y4,y5,y6,y7,y8,y9,x0,x1,x2,x3,x4,x5,x6,x7,x8,x9,xf2,xf3,xf4,xf5,xf6,xf7,xf8,xf9,b0,b1,b2,b3,b4,b5,b6,b7,b8,b9,b0f,b1f,b2f,b3f,b4f,b5f,b6f,b7f,b8f,b9f]
  refine ⟨fun wz hz => by simp [hz.cell_some y2 hyx],?_,?_,?_⟩
  ·first
   | exact ((Kp.refl _ _).setCell_at _ _).drew
   | exact (((Kp.refl _ _).setCell_at _ _).setCell_at _ _).drew
   | exact ((((Kp.refl _ _).setCell_at _ _).setCell_at _ _).setCell_at _ _).drew
  ·first
   | exact ((Kp.refl _ _).setCell_at _ _).drew
   | exact (((Kp.refl _ _).setCell_at _ _).setCell_at _ _).drew
   | exact ((((Kp.refl _ _).setCell_at _ _).setCell_at _ _).setCell_at _ _).drew
  rw [e]
  refine ⟨⟨none,0,none,0,rfl⟩,Nw.at_ (F:=fun k => k = x ∨ k = z) n0 ?_ (fun k hk => by omega)⟩
  try with_reducible refine Kp.drew ?_
  repeat (first | with_reducible exact Kp.refl _ _ | with_reducible refine Kp.setCell ?_ _ _ (.inr (by first | exact .inl rfl | exact .inr rfl)))
 have k1':(c.kind == 1) = false:=by simpa using k1
 by_cases k4:c.kind = 4
 ·have k4':(c.kind == 4) = true:=by simpa using k4
  have e:nameC c = ⟨c.kind,c.user,[],c.box,c.to,[],0,0,0,[]⟩:=by unfold nameC; rw [if_neg k1]; rw [if_pos k4]
  have kk:=k4'
  simp -dsimp [go_sem,k1',k4',y0,y1,y2,y3,y4,y5,y6,y7,y8,y9,x0,x1,x2,x3,x4,x5,x6,x7,x8,x9,xf2,xf3,xf4,xf5,xf6,xf7,xf8,xf9,b0,b1,b2,b3,b4,b5,b6,b7,b8,b9,b0f,b1f,b2f,b3f,b4f,b5f,b6f,b7f,b8f,b9f]
  rw [e]
  refine ⟨⟨none,0,none,0,rfl⟩,Nw.at_ (F:=fun k => k = x ∨ k = z) n0 ?_ (fun k hk => by omega)⟩
  try with_reducible refine Kp.drew ?_
  repeat (first | with_reducible exact Kp.refl _ _ | with_reducible refine Kp.setCell ?_ _ _ (.inr (by first | exact .inl rfl | exact .inr rfl)))
 have k4':(c.kind == 4) = false:=by simpa using k4
 by_cases k5:c.kind = 5
 ·have k5':(c.kind == 5) = true:=by simpa using k5
  have e:nameC c = ⟨c.kind,c.user,[],c.box,[],[],0,c.flags,c.date,c.body⟩:=by unfold nameC; rw [if_neg k1]; rw [if_neg k4]; rw [if_pos k5]
  simp -dsimp [go_sem,y0,k1',k4',k5']
  refine draw (.take 0 (.take 1 (.take 2 (.take 3 (.take 4 (.take 5 (.take 6 (.alt 7 (.take 8 (.alt 9 (.take 10 (.alt 11 .done .stop)) .stop)) .stop)))))))) (by kernel_rfl) (fun wz => Kp (At x) wx wz) ((Kp.refl _ _).drew) ?_
  simp -dsimp [go_sem,y0,y1,y2,y3,y4,y5,y6,y7,y8,y9,x0,x1,x2,x3,x4,x5,x6,x7,x8,x9,xf2,xf3,xf4,xf5,xf6,xf7,xf8,xf9,b0,b1,b2,b3,b4,b5,b6,b7,b8,b9,b0f,b1f,b2f,b3f,b4f,b5f,b6f,b7f,b8f,b9f]
  refine ⟨fun wz hz => by simp [hz.cell_some y7 hyx],fun wz hz => by simp [hz.cell_some y8 hyx],fun wz hz => by simp [hz.cell_some y9 hyx],?_,?_,?_,?_⟩
  ·first
   | exact ((Kp.refl _ _).setCell_at _ _).drew
   | exact (((Kp.refl _ _).setCell_at _ _).setCell_at _ _).drew
   | exact ((((Kp.refl _ _).setCell_at _ _).setCell_at _ _).setCell_at _ _).drew
  ·first
   | exact ((Kp.refl _ _).setCell_at _ _).drew
   | exact (((Kp.refl _ _).setCell_at _ _).setCell_at _ _).drew
   | exact ((((Kp.refl _ _).setCell_at _ _).setCell_at _ _).setCell_at _ _).drew
  ·first
   | exact ((Kp.refl _ _).setCell_at _ _).drew
   | exact (((Kp.refl _ _).setCell_at _ _).setCell_at _ _).drew
   | exact ((((Kp.refl _ _).setCell_at _ _).setCell_at _ _).setCell_at _ _).drew
  rw [e]
  refine ⟨⟨none,0,B,cb,rfl⟩,Nw.at_ (F:=fun k => k = x ∨ k = z) n0 ?_ (fun k hk => by omega)⟩
  try with_reducible refine Kp.drew ?_
  repeat (first | with_reducible exact Kp.refl _ _ | with_reducible refine Kp.setCell ?_ _ _ (.inr (by first | exact .inl rfl | exact .inr rfl)))
 have k5':(c.kind == 5) = false:=by simpa using k5
 by_cases k6:c.kind = 6
 ·have k6':(c.kind == 6) = true:=by simpa using k6
  have e:nameC c = ⟨c.kind,c.user,[],c.box,[],c.uids,c.mode,c.flags,0,[]⟩:=by unfold nameC; rw [if_neg k1]; rw [if_neg k4]; rw [if_neg k5]; rw [if_pos k6]
  simp -dsimp [go_sem,y0,k1',k4',k5',k6']
  refine draw (.take 0 (.take 1 (.take 2 (.take 3 (.take 4 (.take 5 (.take 6 (.alt 7 (.take 8 (.alt 9 (.take 10 (.alt 11 .done .stop)) .stop)) .stop)))))))) (by kernel_rfl) (fun wz => Kp (At x) wx wz) ((Kp.refl _ _).drew) ?_
  simp -dsimp [go_sem,y0,y1,y2,y3,y4,y5,y6,y7,y8,y9,x0,x1,x2,x3,x4,x5,x6,x7,x8,x9,xf2,xf3,xf4,xf5,xf6,xf7,xf8,xf9,b0,b1,b2,b3,b4,b5,b6,b7,b8,b9,b0f,b1f,b2f,b3f,b4f,b5f,b6f,b7f,b8f,b9f]
  refine ⟨fun wz hz => by simp [hz.cell_some y5 hyx],fun wz hz => by simp [hz.cell_some y6 hyx],fun wz hz => by simp [hz.cell_some y7 hyx],?_,?_,?_,?_⟩
  ·first
   | exact ((Kp.refl _ _).setCell_at _ _).drew
   | exact (((Kp.refl _ _).setCell_at _ _).setCell_at _ _).drew
   | exact ((((Kp.refl _ _).setCell_at _ _).setCell_at _ _).setCell_at _ _).drew
  ·first
   | exact ((Kp.refl _ _).setCell_at _ _).drew
   | exact (((Kp.refl _ _).setCell_at _ _).setCell_at _ _).drew
   | exact ((((Kp.refl _ _).setCell_at _ _).setCell_at _ _).setCell_at _ _).drew
  ·first
   | exact ((Kp.refl _ _).setCell_at _ _).drew
   | exact (((Kp.refl _ _).setCell_at _ _).setCell_at _ _).drew
   | exact ((((Kp.refl _ _).setCell_at _ _).setCell_at _ _).setCell_at _ _).drew
  rw [e]
  refine ⟨⟨A,ca,none,0,rfl⟩,Nw.at_ (F:=fun k => k = x ∨ k = z) n0 ?_ (fun k hk => by omega)⟩
  try with_reducible refine Kp.drew ?_
  repeat (first | with_reducible exact Kp.refl _ _ | with_reducible refine Kp.setCell ?_ _ _ (.inr (by first | exact .inl rfl | exact .inr rfl)))
 have k6':(c.kind == 6) = false:=by simpa using k6
 by_cases k7:c.kind = 7
 ·have k7':(c.kind == 7) = true:=by simpa using k7
  have e:nameC c = ⟨c.kind,c.user,[],c.box,[],c.uids,0,0,0,[]⟩:=by unfold nameC; rw [if_neg k1]; rw [if_neg k4]; rw [if_neg k5]; rw [if_neg k6]; rw [if_pos k7]
  have kk:=k7'
  simp -dsimp [go_sem,k1',k4',k5',k6',k7',y0,y1,y2,y3,y4,y5,y6,y7,y8,y9,x0,x1,x2,x3,x4,x5,x6,x7,x8,x9,xf2,xf3,xf4,xf5,xf6,xf7,xf8,xf9,b0,b1,b2,b3,b4,b5,b6,b7,b8,b9,b0f,b1f,b2f,b3f,b4f,b5f,b6f,b7f,b8f,b9f]
  rw [e]
  refine ⟨⟨A,ca,none,0,rfl⟩,Nw.at_ (F:=fun k => k = x ∨ k = z) n0 ?_ (fun k hk => by omega)⟩
  try with_reducible refine Kp.drew ?_
  repeat (first | with_reducible exact Kp.refl _ _ | with_reducible refine Kp.setCell ?_ _ _ (.inr (by first | exact .inl rfl | exact .inr rfl)))
 have k7':(c.kind == 7) = false:=by simpa using k7
 by_cases k8:c.kind = 8
 ·have k8':(c.kind == 8) = true:=by simpa using k8
  have e:nameC c = ⟨c.kind,c.user,[],c.box,c.to,c.uids,0,0,0,[]⟩:=by unfold nameC; rw [if_neg k1]; rw [if_neg k4]; rw [if_neg k5]; rw [if_neg k6]; rw [if_neg k7]; rw [if_pos k8]
  simp -dsimp [go_sem,y0,k1',k4',k5',k6',k7',k8']
  refine draw (.take 0 (.take 1 (.take 2 (.take 3 (.take 4 (.alt 5 (.take 6 (.alt 7 .done .stop)) .stop)))))) (by kernel_rfl) (fun wz => Kp (At x) wx wz) ((Kp.refl _ _).drew) ?_
  simp -dsimp [go_sem,y0,y1,y2,y3,y4,y5,y6,y7,y8,y9,x0,x1,x2,x3,x4,x5,x6,x7,x8,x9,xf2,xf3,xf4,xf5,xf6,xf7,xf8,xf9,b0,b1,b2,b3,b4,b5,b6,b7,b8,b9,b0f,b1f,b2f,b3f,b4f,b5f,b6f,b7f,b8f,b9f]
  refine ⟨fun wz hz => by simp [hz.cell_some y5 hyx],fun wz hz => by simp [hz.cell_some y4 hyx],?_,?_,?_⟩
  ·first
   | exact ((Kp.refl _ _).setCell_at _ _).drew
   | exact (((Kp.refl _ _).setCell_at _ _).setCell_at _ _).drew
   | exact ((((Kp.refl _ _).setCell_at _ _).setCell_at _ _).setCell_at _ _).drew
  ·first
   | exact ((Kp.refl _ _).setCell_at _ _).drew
   | exact (((Kp.refl _ _).setCell_at _ _).setCell_at _ _).drew
   | exact ((((Kp.refl _ _).setCell_at _ _).setCell_at _ _).setCell_at _ _).drew
  rw [e]
  refine ⟨⟨A,ca,none,0,rfl⟩,Nw.at_ (F:=fun k => k = x ∨ k = z) n0 ?_ (fun k hk => by omega)⟩
  try with_reducible refine Kp.drew ?_
  repeat (first | with_reducible exact Kp.refl _ _ | with_reducible refine Kp.setCell ?_ _ _ (.inr (by first | exact .inl rfl | exact .inr rfl)))
 have k8':(c.kind == 8) = false:=by simpa using k8
 have e:nameC c = ⟨c.kind,c.user,[],c.box,[],[],0,0,0,[]⟩:=by unfold nameC; rw [if_neg k1]; rw [if_neg k4]; rw [if_neg k5]; rw [if_neg k6]; rw [if_neg k7]; rw [if_neg k8]
 simp -dsimp [go_sem,k1',k4',k5',k6',k7',k8',y0,y1,y2,y3,y4,y5,y6,y7,y8,y9,x0,x1,x2,x3,x4,x5,x6,x7,x8,x9,xf2,xf3,xf4,xf5,xf6,xf7,xf8,xf9,b0,b1,b2,b3,b4,b5,b6,b7,b8,b9,b0f,b1f,b2f,b3f,b4f,b5f,b6f,b7f,b8f,b9f]
 rw [e]
 refine ⟨⟨none,0,none,0,rfl⟩,Nw.at_ (F:=fun k => k = x ∨ k = z) n0 ?_ (fun k hk => by omega)⟩
 try with_reducible refine Kp.drew ?_
 repeat (first | with_reducible exact Kp.refl _ _ | with_reducible refine Kp.setCell ?_ _ _ (.inr (by first | exact .inl rfl | exact .inr rfl)))
theorem isNamed_spec (v:Value) (c:Chg) (w:World) (h:ChV v c):Cal Tryz.prog 78 #[v] w fun v' w' => v' = .bool (namedOk c) ∧ Nw w w':=by
 have hV:=h
 rw [← sameC_named c]
 obtain ⟨A,ca,B,cb,rfl⟩:=h
 refine enter Tryz.mixed Tryz.func78 rfl (by kernel_rfl) ?_
 simp -dsimp [go_sem]
 have k0:Nw w (w.alloc (.cells (chV c A ca B cb) 25)):=(Kp.refl _ _).alloc _
 have hy:=Blk.new w 25 (chV c A ca B cb)
 obtain ⟨y,hy'⟩:∃ y,y = w.heap.size:=⟨_,rfl⟩
 rw [← hy'] at hy ⊢
 generalize w.alloc (.cells (chV c A ca B cb) 25) = wa at *
 refine call (named_spec _ c wa hV) ?_
 rintro v w1 ⟨⟨A',ca',B',cb',rfl⟩,k1⟩
 obtain ⟨x,hx⟩:∃ x,x = nameC c:=⟨_,rfl⟩
 rw [← hx]
 have n1:=k0.nw k1
 have ka:Nw w1 (w1.alloc (.cells (chV x A' ca' B' cb') 25)):=(Kp.refl _ _).alloc _
 have hz:=Blk.new w1 25 (chV x A' ca' B' cb')
 have hyb:=(hy.nw k1).nw ka
 have n2:=n1.nw ka
 simp -dsimp [go_sem]
 obtain ⟨z,hz'⟩:∃ z,z = w1.heap.size:=⟨_,rfl⟩
 rw [← hz'] at hz ⊢
 generalize w1.alloc (.cells (chV x A' ca' B' cb') 25) = w2 at *
 have y0:=(hyb).cell 0
 have y1:=(hyb).cell 1
 have y2:=(hyb).cell 2
 have y3:=(hyb).cell 3
 have y4:=(hyb).cell 4
 have y5:=(hyb).cell 5
 have y6:=(hyb).cell 6
 have y7:=(hyb).cell 7
 have y8:=(hyb).cell 8
 have y9:=(hyb).cell 9
 have z0:=(hz).cell 0
 have z1:=(hz).cell 1
 have z2:=(hz).cell 2
 have z3:=(hz).cell 3
 have z4:=(hz).cell 4
 have z5:=(hz).cell 5
 have z6:=(hz).cell 6
 have z7:=(hz).cell 7
 have z8:=(hz).cell 8
 have z9:=(hz).cell 9
 obtain ⟨ul,hul⟩:∃ ul,ul = c.uids.length:=⟨_,rfl⟩
 obtain ⟨bl,hbl⟩:∃ bl,bl = c.body.length:=⟨_,rfl⟩
 obtain ⟨ul',hul'⟩:∃ ul,ul = x.uids.length:=⟨_,rfl⟩
 obtain ⟨bl',hbl'⟩:∃ bl,bl = x.body.length:=⟨_,rfl⟩
 have y5:w2.cell? ⟨y,5,none⟩ = some (.slice A ul ca):=hul ▸ y5
 have y9:w2.cell? ⟨y,9,none⟩ = some (.slice B bl cb):=hbl ▸ y9
 have z5:w2.cell? ⟨z,5,none⟩ = some (.slice A' ul' ca'):=hul' ▸ z5
 have z9:w2.cell? ⟨z,9,none⟩ = some (.slice B' bl' cb'):=hbl' ▸ z9
 unfold sameC
 rw [← hul,← hbl,← hul',← hbl']
 cases h0:(c.box == x.box) with
 | false =>
  simp -dsimp [go_sem,y0,y1,y2,y3,y4,y5,y6,y7,y8,y9,z0,z1,z2,z3,z4,z5,z6,z7,z8,z9,h0]
  exact n2
 | true =>
  cases h1:(c.pass == x.pass) with
  | false =>
   simp -dsimp [go_sem,y0,y1,y2,y3,y4,y5,y6,y7,y8,y9,z0,z1,z2,z3,z4,z5,z6,z7,z8,z9,h0,h1]
   exact n2
  | true =>
   cases h2:(c.to == x.to) with
   | false =>
    simp -dsimp [go_sem,y0,y1,y2,y3,y4,y5,y6,y7,y8,y9,z0,z1,z2,z3,z4,z5,z6,z7,z8,z9,h0,h1,h2]
    exact n2
   | true =>
    cases h3:((ul:Int) == (ul':Int)) with
    | false =>
     simp -dsimp [go_sem,y0,y1,y2,y3,y4,y5,y6,y7,y8,y9,z0,z1,z2,z3,z4,z5,z6,z7,z8,z9,h0,h1,h2,h3]
     exact n2
    | true =>
     cases h4:(c.mode == x.mode) with
     | false =>
      simp -dsimp [go_sem,y0,y1,y2,y3,y4,y5,y6,y7,y8,y9,z0,z1,z2,z3,z4,z5,z6,z7,z8,z9,h0,h1,h2,h3,h4]
      exact n2
     | true =>
      cases h5:(c.flags == x.flags) with
      | false =>
       simp -dsimp [go_sem,y0,y1,y2,y3,y4,y5,y6,y7,y8,y9,z0,z1,z2,z3,z4,z5,z6,z7,z8,z9,h0,h1,h2,h3,h4,h5]
       exact n2
      | true =>
       cases h6:(c.date == x.date) with
       | false =>
        simp -dsimp [go_sem,y0,y1,y2,y3,y4,y5,y6,y7,y8,y9,z0,z1,z2,z3,z4,z5,z6,z7,z8,z9,h0,h1,h2,h3,h4,h5,h6]
        exact n2
       | true =>
        cases h7:((bl:Int) == (bl':Int)) with
        | false =>
         simp -dsimp [go_sem,y0,y1,y2,y3,y4,y5,y6,y7,y8,y9,z0,z1,z2,z3,z4,z5,z6,z7,z8,z9,h0,h1,h2,h3,h4,h5,h6,h7]
         exact n2
        | true =>
         simp -dsimp [go_sem,y0,y1,y2,y3,y4,y5,y6,y7,y8,y9,z0,z1,z2,z3,z4,z5,z6,z7,z8,z9,h0,h1,h2,h3,h4,h5,h6,h7]
         exact n2
end Go.Proofs.YtellahclbhfdiaaGreatDoor
