/-
  A store's plans walked: keeps, creates, renames. By the session itself. A change told: named, isNamed, isChange walked. By the session itself. A change told: isNamed, isChange walked. By the session itself.
-/
import Derived.Test.YtellahclbhfdiaaGreatDoorQ20
import Derived.Test.YtellahclbhfdiaaGreatDoorQ09
namespace Go.Proofs.YtellahclbhfdiaaGreatDoor
set_option linter.unusedSimpArgs false
set_option linter.unusedVariables false
set_option maxRecDepth 100000
set_option maxHeartbeats 1000000
open Go.Vc Go.RowKit
theorem keeps_does {t x y r N:Nat} {T:Stt} {F V:Nat → Prop} {ptr rb:Nm → Nat} {vb:Nm → Nm → Value} {Fs:Nm → Nat → Prop} {s n:Nm} {u:Usr} {b:Bx} {vL:Value} {w:World} (h:SttM w t T F V r ptr rb vb Fs) (hVl:∀ i,V i → i < N) (hN:N ≤ w.heap.size) (hu:tLook T.us s = some u)
  (hy:Blk w y 111 #[str n,i64 b.val,i64 b.next,vL]) (hx:Blk w x 116 #[.pointer (some ⟨ptr s,0,none⟩)]) (hn:b.name = ⟨n.toArray⟩) (hb:RB w (.agg #[.string b.name,i64 b.val,i64 b.next,vL]) b V) (hyN:N ≤ y) (hxN:N ≤ x) :
  Does w (.func (.func 148) #[] #[.pointer (some ⟨y,0,none⟩),.pointer (some ⟨x,0,none⟩)]) t (T.turn s u (tLay u.bx n b)) F V:=by
 refine ⟨_,_,rfl,by kernel_rfl,fun S V' w2 k hS hG hV => ?_⟩
 have hFl:∀ i,F i → i < N:=fun i hi => hVl i (h.fv i hi)
 have hM:=h.step k hS hG hV
 have hy2:=hy.kp k fun e => by have:=hVl y (hS y e).1; omega
 have hx2:=hx.kp k fun e => by have:=hVl x (hS x e).1; omega
 refine (keeps1_spec hM hu hy2 hx2 hn (hb.step (k.mono fun i _ hi => (hS i hi).1) hG) (fun e => by have:=hFl y e; omega) (fun e => by have:=hFl x e; omega)).mono ?_
 rintro v w3 ⟨rfl,h5,h6⟩
 exact ⟨rfl,_,_,h5,fun i hi => .inl hi,fun i hi => .inl hi,fun i hi => hi,h6⟩
theorem keeps_spec {t r:Nat} {T:Stt} {F V:Nat → Prop} {ptr rb:Nm → Nat} {vb:Nm → Nm → Value} {Fs:Nm → Nat → Prop} {s n:Nm} {u:Usr} {b:Bx} (w:World) (v:Value) (h:SttM w t T F V r ptr rb vb Fs) (hVl:∀ i,V i → i < w.heap.size) (hu:tLook T.us s = some u) (hn:b.name = ⟨n.toArray⟩) (hb:RB w v b V) (k e:Int) :
  Cal Tryz.prog 92 #[.pointer (some ⟨ptr s,0,none⟩),v,i64 k,i64 e] w fun v w' => PlanR w' v t (plKeep T s u n b k e) F V ∧ Nw w w':=by
 have hRB:=hb
 obtain ⟨A,c,q,rfl,hq,hc,hr,ho,hbd⟩:=hb
 refine enter Tryz.mixed Tryz.func92 rfl (by kernel_rfl) ?_
 rw [hn]
 simp -dsimp [go_sem]
 obtain ⟨x,y,z,hx',hy',hz',hx,hy,hz,hsz,n0⟩:=three_new w 116 111 100 #[.pointer (some ⟨ptr s,0,none⟩)] #[str n,i64 b.val,i64 b.next,.slice A b.L.length c] #[.nilFunc,i64 0,i64 0]
 rw [← hx',← hy',← hz']
 generalize ((w.alloc (.cells #[.pointer (some ⟨ptr s,0,none⟩)] 116)).alloc (.cells #[str n,i64 b.val,i64 b.next,.slice A b.L.length c] 111)).alloc (.cells #[.nilFunc,i64 0,i64 0] 100) = wa at *
 by_cases he:e = 0
 ·have hpl:plKeep T s u n b k e = (0,k,T.turn s u (tLay u.bx n b)):=by unfold plKeep; rw [if_neg (by simpa using he)]
  subst he
  have z0c:=hz.cell 0
  have z1c:=hz.cell 1
  have z2c:=hz.cell 2
  have z0f:=hz.frozen 0
  have z1f:=hz.frozen 1
  have z2f:=hz.frozen 2
  simp -dsimp [go_sem]
  simp [go_sem,z0c,z1c,z2c,z0f,z1f,z2f]
  have nf:=fun a b c => n0.at_ (set3 wa z a b c) fun k (e:k = z) => by omega
  rw [hpl]
  have hxf:=fun a b c => hx.kp (set3 wa z a b c) fun (e:x = z) => by omega
  have hyf:=fun a b c => hy.kp (set3 wa z a b c) fun (e:y = z) => by omega
  exact ⟨.inr ⟨rfl,_,rfl,keeps_does (h.nw (nf _ _ _)) hVl (nf _ _ _).size hu (hyf _ _ _) (hxf _ _ _) hn (hRB.nw (nf _ _ _)) (by omega) (by omega)⟩,nf _ _ _⟩
 ·have hpl:plKeep T s u n b k e = (e,0,T):=by unfold plKeep; rw [if_pos he]
  have hne:(e != 0) = true:=by simpa using he
  simp -dsimp [go_sem,hne]
  refine call (refused_spec e _) ?_
  rintro v w1 ⟨rfl,k1⟩
  have n1:=n0.nw k1
  have hz1:=hz.nw k1
  have z0c:=hz1.cell 0
  have z1c:=hz1.cell 1
  have z2c:=hz1.cell 2
  have z0f:=hz1.frozen 0
  have z1f:=hz1.frozen 1
  have z2f:=hz1.frozen 2
  simp -dsimp [go_sem,z0c,z1c,z2c,z0f,z1f,z2f]
  rw [hpl]
  exact ⟨.inl ⟨he,rfl⟩,n1.at_ (set3 w1 z _ _ _) fun k (e:k = z) => by omega⟩
theorem four_new (w:World) (t u v v':TypeId) (cs ds es fs:Array Value):∃ x y z g,x = w.heap.size ∧ y = x + 1 ∧ z = y + 1 ∧ g = z + 1 ∧ Blk ((((w.alloc (.cells cs t)).alloc (.cells ds u)).alloc (.cells es v)).alloc (.cells fs v')) x t cs ∧ Blk ((((w.alloc (.cells cs t)).alloc (.cells ds u)).alloc (.cells es v)).alloc (.cells fs v')) y u ds ∧
  Blk ((((w.alloc (.cells cs t)).alloc (.cells ds u)).alloc (.cells es v)).alloc (.cells fs v')) z v es ∧ Blk ((((w.alloc (.cells cs t)).alloc (.cells ds u)).alloc (.cells es v)).alloc (.cells fs v')) g v' fs ∧ ((((w.alloc (.cells cs t)).alloc (.cells ds u)).alloc (.cells es v)).alloc (.cells fs v')).heap.size = g + 1 ∧ Nw w ((((w.alloc (.cells cs t)).alloc (.cells ds u)).alloc (.cells es v)).alloc (.cells fs v')):=by
 obtain ⟨x,y,z,h1,h2,h3,b1,b2,b3,hs,n⟩:=three_new w t u v cs ds es
 have k:Nw _ ((((w.alloc (.cells cs t)).alloc (.cells ds u)).alloc (.cells es v)).alloc (.cells fs v')):=(Kp.refl _ _).alloc _
 have b4:=Blk.new (((w.alloc (.cells cs t)).alloc (.cells ds u)).alloc (.cells es v)) v' fs
 rw [hs] at b4
 exact ⟨x,y,z,z + 1,h1,h2,h3,rfl,b1.nw k,b2.nw k,b3.nw k,b4,by simp [hs],n.nw k⟩
theorem creates_does {t x y z r N:Nat} {T:Stt} {F V:Nat → Prop} {ptr rb:Nm → Nat} {vb:Nm → Nm → Value} {Fs:Nm → Nat → Prop} {c:Chg} {A B:Option Addr} {ca cb:Nat} {u:Usr} {w:World} (h:SttM w t T F V r ptr rb vb Fs) (ok:T.Ok) (hVl:∀ i,V i → i < N) (hN:N ≤ w.heap.size) (hu:tLook T.us c.user = some u)
  (hy:Blk w y 25 (chV c A ca B cb)) (hx:Blk w x 116 #[.pointer (some ⟨ptr c.user,0,none⟩)]) (hz:Blk w z 95 #[.pointer (some ⟨t,0,none⟩)]) (hyN:N ≤ y) (hxN:N ≤ x) (hzN:N ≤ z) :
  Does w (.func (.func 144) #[] #[.pointer (some ⟨y,0,none⟩),.pointer (some ⟨z,0,none⟩),.pointer (some ⟨x,0,none⟩)]) t { T.turn c.user u (tLay u.bx c.box (newB c.box T.next)) with next:=T.next + 1 } F V:=by
 refine ⟨_,_,rfl,by kernel_rfl,fun S V' w2 k hS hG hV => ?_⟩
 have hFl:∀ i,F i → i < N:=fun i hi => hVl i (h.fv i hi)
 have hM:=h.step k hS hG hV
 have hy2:=hy.kp k fun e => by have:=hVl y (hS y e).1; omega
 have hx2:=hx.kp k fun e => by have:=hVl x (hS x e).1; omega
 have hz2:=hz.kp k fun e => by have:=hVl z (hS z e).1; omega
 have hVl2:=vlt (fun i hi => Nat.lt_of_lt_of_le (hVl i hi) hN) k.size hG
 refine (creates1_spec hM hVl2 hu ok.next (hy2.cell 3) hx2 hz2 (fun e => by have:=hFl y e; omega) (fun e => by have:=hFl x e; omega) (fun e => by have:=hFl z e; omega)).mono ?_
 rintro v w3 ⟨rfl,h5,h6⟩
 exact ⟨rfl,_,_,h5,fun i hi => .inl hi,fun i hi => .inl hi,fun i hi => hi,h6⟩
theorem gone_does {t x y r N:Nat} {T:Stt} {F V:Nat → Prop} {ptr rb:Nm → Nat} {vb:Nm → Nm → Value} {Fs:Nm → Nat → Prop} {c:Chg} {A B:Option Addr} {ca cb:Nat} {u:Usr} {w:World} (h:SttM w t T F V r ptr rb vb Fs) (ok:T.Ok) (hVl:∀ i,V i → i < N) (hN:N ≤ w.heap.size) (hu:tLook T.us c.user = some u)
  (hy:Blk w y 25 (chV c A ca B cb)) (hx:Blk w x 116 #[.pointer (some ⟨ptr c.user,0,none⟩)]) (hyN:N ≤ y) (hxN:N ≤ x) :
  Does w (.func (.func 89) #[] #[.pointer (some ⟨x,0,none⟩),.pointer (some ⟨y,0,none⟩)]) t (T.turn c.user u (tGone u.bx c.box)) F V:=by
 refine ⟨_,_,rfl,by kernel_rfl,fun S V' w2 k hS hG hV => ?_⟩
 have hFl:∀ i,F i → i < N:=fun i hi => hVl i (h.fv i hi)
 have hM:=h.step k hS hG hV
 have hy2:=hy.kp k fun e => by have:=hVl y (hS y e).1; omega
 have hx2:=hx.kp k fun e => by have:=hVl x (hS x e).1; omega
 refine (plans1_spec hM (fun s u hu => (ok.us s u hu).2.srt) hu (hy2.cell 3) hx2 (fun e => by have:=hFl y e; omega) (fun e => by have:=hFl x e; omega)).mono ?_
 rintro v w3 ⟨rfl,h5,h6⟩
 exact ⟨rfl,_,_,⟨_,_,_,_,_,h5⟩,fun i hi => .inl hi,fun i hi => .inl hi,fun i hi => hi,h6.mono fun i _ (e:i = rb c.user) => e ▸ (hM.inn _ _ (hM.us _ _ hu).2.2.1).1⟩
theorem renames_does {t x y z r N:Nat} {T:Stt} {F V:Nat → Prop} {ptr rb:Nm → Nat} {vb:Nm → Nm → Value} {Fs:Nm → Nat → Prop} {c:Chg} {A B:Option Addr} {ca cb:Nat} {u:Usr} {b:Bx} {vL:Value} {w:World} (h:SttM w t T F V r ptr rb vb Fs) (ok:T.Ok) (hVl:∀ i,V i → i < N) (hN:N ≤ w.heap.size) (hu:tLook T.us c.user = some u)
  (hy:Blk w y 25 (chV c A ca B cb)) (hx:Blk w x 116 #[.pointer (some ⟨ptr c.user,0,none⟩)]) (hz:Blk w z 111 #[str c.to,i64 b.val,i64 b.next,vL]) (hb:RB w (.agg #[str c.to,i64 b.val,i64 b.next,vL]) { b with name:=⟨c.to.toArray⟩ } V) (hyN:N ≤ y) (hxN:N ≤ x) (hzN:N ≤ z) :
  Does w (.func (.func 145) #[] #[.pointer (some ⟨x,0,none⟩),.pointer (some ⟨y,0,none⟩),.pointer (some ⟨z,0,none⟩)]) t (T.turn c.user u (tLay (tGone u.bx c.box) c.to { b with name:=⟨c.to.toArray⟩ })) F V:=by
 refine ⟨_,_,rfl,by kernel_rfl,fun S V' w2 k hS hG hV => ?_⟩
 have hFl:∀ i,F i → i < N:=fun i hi => hVl i (h.fv i hi)
 have hM:=h.step k hS hG hV
 have hy2:=hy.kp k fun e => by have:=hVl y (hS y e).1; omega
 have hx2:=hx.kp k fun e => by have:=hVl x (hS x e).1; omega
 have hz2:=hz.kp k fun e => by have:=hVl z (hS z e).1; omega
 refine (renames1_spec hM (fun s u hu => (ok.us s u hu).2.srt) hu (hy2.cell 3) (hy2.cell 4) hx2 hz2 (hb.step (k.mono fun i _ hi => (hS i hi).1) hG) (fun e => by have:=hFl y e; omega) (fun e => by have:=hFl x e; omega) (fun e => by have:=hFl z e; omega)).mono ?_
 rintro v w3 ⟨rfl,h5,h6⟩
 exact ⟨rfl,_,_,h5,fun i hi => .inl hi,fun i hi => .inl hi,fun i hi => hi,h6⟩
/-- A change without what its kind does not name. -/
def nameC (c:Chg):Chg :=
 if c.kind = 1 then ⟨c.kind,c.user,c.pass,[],[],[],0,0,0,[]⟩ else if c.kind = 4 then ⟨c.kind,c.user,[],c.box,c.to,[],0,0,0,[]⟩ else
 if c.kind = 5 then ⟨c.kind,c.user,[],c.box,[],[],0,c.flags,c.date,c.body⟩ else if c.kind = 6 then ⟨c.kind,c.user,[],c.box,[],c.uids,c.mode,c.flags,0,[]⟩ else
 if c.kind = 7 then ⟨c.kind,c.user,[],c.box,[],c.uids,0,0,0,[]⟩ else if c.kind = 8 then ⟨c.kind,c.user,[],c.box,c.to,c.uids,0,0,0,[]⟩ else ⟨c.kind,c.user,[],c.box,[],[],0,0,0,[]⟩
/-- Are they one, but for what lies in the slices? -/
def sameC (c x:Chg):Bool:=(c.box == x.box) && ((c.pass == x.pass) && ((c.to == x.to) && (((c.uids.length:Int) == (x.uids.length:Int)) && ((c.mode == x.mode) && ((c.flags == x.flags) && ((c.date == x.date) && ((c.body.length:Int) == (x.body.length:Int))))))))
theorem sameC_named (c:Chg):sameC c (nameC c) = namedOk c:=by
 have hl:∀ {α:Type} (l:List α),((l.length:Int) == 0) = decide (l = []):=fun l => by
  cases l with
  | nil => rfl
  | cons a l => simp; omega
 have he:∀ (l:Nm),l.isEmpty = decide (l = []):=fun l => by cases l <;> rfl
 have hz:∀ n:Int,(n == 0) = decide (n = 0):=fun n => rfl
 unfold sameC nameC namedOk toK manyK
 by_cases h1:c.kind = 1
 ·simp [h1,hl,he,hz]
 ·by_cases h4:c.kind = 4
  ·simp [h4,hl,he,hz]
  ·by_cases h5:c.kind = 5
   ·simp [h5,hl,he,hz]
   ·by_cases h6:c.kind = 6
    ·simp [h6,hl,he,hz]
    ·by_cases h7:c.kind = 7
     ·simp [h7,hl,he,hz]
     ·by_cases h8:c.kind = 8
      ·simp [h8,hl,he,hz]
      ·simp [h1,h4,h5,h6,h7,h8,hl,he,hz]
theorem set10 (w:World) (z:Nat) (v0 v1 v2 v3 v4 v5 v6 v7 v8 v9:Value):Kp (At z) w ((((((((((w.setCell ⟨z,0,none⟩ v0).setCell ⟨z,1,none⟩ v1).setCell ⟨z,2,none⟩ v2).setCell ⟨z,3,none⟩ v3).setCell ⟨z,4,none⟩ v4).setCell ⟨z,5,none⟩ v5).setCell ⟨z,6,none⟩ v6).setCell ⟨z,7,none⟩ v7).setCell ⟨z,8,none⟩ v8).setCell ⟨z,9,none⟩ v9) :=
 ((((((((((Kp.refl _ _).setCell_at _ _).setCell_at _ _).setCell_at _ _).setCell_at _ _).setCell_at _ _).setCell_at _ _).setCell_at _ _).setCell_at _ _).setCell_at _ _).setCell_at _ _
/-- A change, as a value. -/
def ChV (v:Value) (c:Chg):Prop:=∃ A ca B cb,v = .agg (chV c A ca B cb)
theorem named_spec (v:Value) (c:Chg) (w:World) (h:ChV v c):Cal Tryz.prog 141 #[v] w fun v' w' => ChV v' (nameC c) ∧ Nw w w':=by
 obtain ⟨A,ca,B,cb,rfl⟩:=h
 refine enter Tryz.mixed Tryz.func141 rfl (by kernel_rfl) ?_
 simp -dsimp [go_sem]
 obtain ⟨y,hy',hy,hb,hsz,n0⟩:=two_new w 25 25 (chV c A ca B cb) #[.int .i64 0,.string ⟨#[]⟩,.string ⟨#[]⟩,.string ⟨#[]⟩,.string ⟨#[]⟩,.slice none 0 0,.int .i64 0,.int .i64 0,.int .i64 0,.slice none 0 0]
 obtain ⟨z,hz'⟩:∃ z,z = y + 1:=⟨_,rfl⟩
 rw [← hz'] at hb
 rw [← hy',← hz']
 generalize (w.alloc (.cells (chV c A ca B cb) 25)).alloc (.cells #[.int .i64 0,.string ⟨#[]⟩,.string ⟨#[]⟩,.string ⟨#[]⟩,.string ⟨#[]⟩,.slice none 0 0,.int .i64 0,.int .i64 0,.int .i64 0,.slice none 0 0] 25) = wa at *
 have y0:=(hy).cell 0
 have y1:=(hy).cell 1
 have y2:=(hy).cell 2
 have y3:=(hy).cell 3
 have y4:=(hy).cell 4
 have y5:=(hy).cell 5
 have y6:=(hy).cell 6
 have y7:=(hy).cell 7
 have y8:=(hy).cell 8
 have y9:=(hy).cell 9
 simp [go_sem]
 have hx0:=Blk.new wa 25 #[i64 c.kind,str c.user,.string ⟨#[]⟩,str c.box,.string ⟨#[]⟩,.slice none 0 0,i64 0,i64 0,i64 0,.slice none 0 0]
 have ka:Nw wa (wa.alloc (.cells #[i64 c.kind,str c.user,.string ⟨#[]⟩,str c.box,.string ⟨#[]⟩,.slice none 0 0,i64 0,i64 0,i64 0,.slice none 0 0] 25)):=(Kp.refl _ _).alloc _
 have hsx:(wa.alloc (.cells #[i64 c.kind,str c.user,.string ⟨#[]⟩,str c.box,.string ⟨#[]⟩,.slice none 0 0,i64 0,i64 0,i64 0,.slice none 0 0] 25)).heap.size = wa.heap.size + 1:=by simp
 obtain ⟨x,hx'⟩:∃ x,x = wa.heap.size:=⟨_,rfl⟩
 rw [← hx'] at hx0 hsx
 clear y0 y1 y2 y3 y4 y5 y6 y7 y8 y9
 have hyx:=hy.lt
 have hzx:=hb.lt
 have hy:=hy.nw ka
 have hb:=hb.nw ka
 have n0:=n0.nw ka
 rw [← hx']
 generalize wa.alloc (.cells #[i64 c.kind,str c.user,.string ⟨#[]⟩,str c.box,.string ⟨#[]⟩,.slice none 0 0,i64 0,i64 0,i64 0,.slice none 0 0] 25) = wx at *
 have y0:=(hy).cell 0
 have y1:=(hy).cell 1
 have y2:=(hy).cell 2
 have y3:=(hy).cell 3
 have y4:=(hy).cell 4
 have y5:=(hy).cell 5
 have y6:=(hy).cell 6
 have y7:=(hy).cell 7
 have y8:=(hy).cell 8
 have y9:=(hy).cell 9
 have x0:=(hx0).cell 0
 have x1:=(hx0).cell 1
 have x2:=(hx0).cell 2
 have x3:=(hx0).cell 3
 have x4:=(hx0).cell 4
 have x5:=(hx0).cell 5
 have x6:=(hx0).cell 6
 have x7:=(hx0).cell 7
 have x8:=(hx0).cell 8
 have x9:=(hx0).cell 9
 have xf2:=hx0.frozen 2
 have xf3:=hx0.frozen 3
 have xf4:=hx0.frozen 4
 have xf5:=hx0.frozen 5
 have xf6:=hx0.frozen 6
 have xf7:=hx0.frozen 7
 have xf8:=hx0.frozen 8
 have xf9:=hx0.frozen 9
 have hyx:y ≠ x:=by omega
 have b0:=(hb).cell 0
 have b1:=(hb).cell 1
 have b2:=(hb).cell 2
 have b3:=(hb).cell 3
 have b4:=(hb).cell 4
 have b5:=(hb).cell 5
 have b6:=(hb).cell 6
 have b7:=(hb).cell 7
 have b8:=(hb).cell 8
 have b9:=(hb).cell 9
 have b0f:=(hb).frozen 0
 have b1f:=(hb).frozen 1
 have b2f:=(hb).frozen 2
 have b3f:=(hb).frozen 3
 have b4f:=(hb).frozen 4
 have b5f:=(hb).frozen 5
 have b6f:=(hb).frozen 6
 have b7f:=(hb).frozen 7
 have b8f:=(hb).frozen 8
 have b9f:=(hb).frozen 9
 by_cases k1:c.kind = 1
 ·have k1':(c.kind == 1) = true:=by simpa using k1
  have e:nameC c = ⟨c.kind,c.user,c.pass,[],[],[],0,0,0,[]⟩:=by unfold nameC; rw [if_pos k1]
  simp -dsimp [go_sem,y0,k1']
  refine draw (.take 0 (.take 1 (.take 2 (.alt 3 (.take 4 (.alt 5 .done .stop)) .stop)))) (by kernel_rfl) (fun wz => Kp (At x) wx wz) ((Kp.refl _ _).drew) ?_
  simp -dsimp [go_sem,y0,y1,y2,y3,y4,y5,y6,y7,y8,y9,x0,x1,x2,x3,x4,x5,x6,x7,x8,x9,xf2,xf3,xf4,xf5,xf6,xf7,xf8,xf9,b0,b1,b2,b3,b4,b5,b6,b7,b8,b9,b0f,b1f,b2f,b3f,b4f,b5f,b6f,b7f,b8f,b9f]
  refine ⟨fun wz hz => by simp [hz.cell_some y2 hyx],?_,?_,?_⟩
  ·first
   | exact ((Kp.refl _ _).setCell_at _ _).drew
   | exact (((Kp.refl _ _).setCell_at _ _).setCell_at _ _).drew
   | exact ((((Kp.refl _ _).setCell_at _ _).setCell_at _ _).setCell_at _ _).drew
  ·first
   | exact ((Kp.refl _ _).setCell_at _ _).drew
   | exact (((Kp.refl _ _).setCell_at _ _).setCell_at _ _).drew
   | exact ((((Kp.refl _ _).setCell_at _ _).setCell_at _ _).setCell_at _ _).drew
  rw [e]
  refine ⟨⟨none,0,none,0,rfl⟩,Nw.at_ (F:=fun k => k = x ∨ k = z) n0 ?_ (fun k hk => by omega)⟩
  try with_reducible refine Kp.drew ?_
  repeat (first | with_reducible exact Kp.refl _ _ | with_reducible refine Kp.setCell ?_ _ _ (.inr (by first | exact .inl rfl | exact .inr rfl)))
 have k1':(c.kind == 1) = false:=by simpa using k1
 by_cases k4:c.kind = 4
 ·have k4':(c.kind == 4) = true:=by simpa using k4
  have e:nameC c = ⟨c.kind,c.user,[],c.box,c.to,[],0,0,0,[]⟩:=by unfold nameC; rw [if_neg k1]; rw [if_pos k4]
  have kk:=k4'
  simp -dsimp [go_sem,k1',k4',y0,y1,y2,y3,y4,y5,y6,y7,y8,y9,x0,x1,x2,x3,x4,x5,x6,x7,x8,x9,xf2,xf3,xf4,xf5,xf6,xf7,xf8,xf9,b0,b1,b2,b3,b4,b5,b6,b7,b8,b9,b0f,b1f,b2f,b3f,b4f,b5f,b6f,b7f,b8f,b9f]
  rw [e]
  refine ⟨⟨none,0,none,0,rfl⟩,Nw.at_ (F:=fun k => k = x ∨ k = z) n0 ?_ (fun k hk => by omega)⟩
  try with_reducible refine Kp.drew ?_
  repeat (first | with_reducible exact Kp.refl _ _ | with_reducible refine Kp.setCell ?_ _ _ (.inr (by first | exact .inl rfl | exact .inr rfl)))
 have k4':(c.kind == 4) = false:=by simpa using k4
 by_cases k5:c.kind = 5
 ·have k5':(c.kind == 5) = true:=by simpa using k5
  have e:nameC c = ⟨c.kind,c.user,[],c.box,[],[],0,c.flags,c.date,c.body⟩:=by unfold nameC; rw [if_neg k1]; rw [if_neg k4]; rw [if_pos k5]
  simp -dsimp [go_sem,y0,k1',k4',k5']
  refine draw (.take 0 (.take 1 (.take 2 (.take 3 (.take 4 (.take 5 (.take 6 (.alt 7 (.take 8 (.alt 9 (.take 10 (.alt 11 .done .stop)) .stop)) .stop)))))))) (by kernel_rfl) (fun wz => Kp (At x) wx wz) ((Kp.refl _ _).drew) ?_
  simp -dsimp [go_sem,y0,y1,y2,y3,y4,y5,y6,y7,y8,y9,x0,x1,x2,x3,x4,x5,x6,x7,x8,x9,xf2,xf3,xf4,xf5,xf6,xf7,xf8,xf9,b0,b1,b2,b3,b4,b5,b6,b7,b8,b9,b0f,b1f,b2f,b3f,b4f,b5f,b6f,b7f,b8f,b9f]
  refine ⟨fun wz hz => by simp [hz.cell_some y7 hyx],fun wz hz => by simp [hz.cell_some y8 hyx],fun wz hz => by simp [hz.cell_some y9 hyx],?_,?_,?_,?_⟩
  ·first
   | exact ((Kp.refl _ _).setCell_at _ _).drew
   | exact (((Kp.refl _ _).setCell_at _ _).setCell_at _ _).drew
   | exact ((((Kp.refl _ _).setCell_at _ _).setCell_at _ _).setCell_at _ _).drew
  ·first
   | exact ((Kp.refl _ _).setCell_at _ _).drew
   | exact (((Kp.refl _ _).setCell_at _ _).setCell_at _ _).drew
   | exact ((((Kp.refl _ _).setCell_at _ _).setCell_at _ _).setCell_at _ _).drew
  ·first
   | exact ((Kp.refl _ _).setCell_at _ _).drew
   | exact (((Kp.refl _ _).setCell_at _ _).setCell_at _ _).drew
   | exact ((((Kp.refl _ _).setCell_at _ _).setCell_at _ _).setCell_at _ _).drew
  rw [e]
  refine ⟨⟨none,0,B,cb,rfl⟩,Nw.at_ (F:=fun k => k = x ∨ k = z) n0 ?_ (fun k hk => by omega)⟩
  try with_reducible refine Kp.drew ?_
  repeat (first | with_reducible exact Kp.refl _ _ | with_reducible refine Kp.setCell ?_ _ _ (.inr (by first | exact .inl rfl | exact .inr rfl)))
 have k5':(c.kind == 5) = false:=by simpa using k5
 by_cases k6:c.kind = 6
 ·have k6':(c.kind == 6) = true:=by simpa using k6
  have e:nameC c = ⟨c.kind,c.user,[],c.box,[],c.uids,c.mode,c.flags,0,[]⟩:=by unfold nameC; rw [if_neg k1]; rw [if_neg k4]; rw [if_neg k5]; rw [if_pos k6]
  simp -dsimp [go_sem,y0,k1',k4',k5',k6']
  refine draw (.take 0 (.take 1 (.take 2 (.take 3 (.take 4 (.take 5 (.take 6 (.alt 7 (.take 8 (.alt 9 (.take 10 (.alt 11 .done .stop)) .stop)) .stop)))))))) (by kernel_rfl) (fun wz => Kp (At x) wx wz) ((Kp.refl _ _).drew) ?_
  simp -dsimp [go_sem,y0,y1,y2,y3,y4,y5,y6,y7,y8,y9,x0,x1,x2,x3,x4,x5,x6,x7,x8,x9,xf2,xf3,xf4,xf5,xf6,xf7,xf8,xf9,b0,b1,b2,b3,b4,b5,b6,b7,b8,b9,b0f,b1f,b2f,b3f,b4f,b5f,b6f,b7f,b8f,b9f]
  refine ⟨fun wz hz => by simp [hz.cell_some y5 hyx],fun wz hz => by simp [hz.cell_some y6 hyx],fun wz hz => by simp [hz.cell_some y7 hyx],?_,?_,?_,?_⟩
  ·first
   | exact ((Kp.refl _ _).setCell_at _ _).drew
   | exact (((Kp.refl _ _).setCell_at _ _).setCell_at _ _).drew
   | exact ((((Kp.refl _ _).setCell_at _ _).setCell_at _ _).setCell_at _ _).drew
  ·first
   | exact ((Kp.refl _ _).setCell_at _ _).drew
   | exact (((Kp.refl _ _).setCell_at _ _).setCell_at _ _).drew
   | exact ((((Kp.refl _ _).setCell_at _ _).setCell_at _ _).setCell_at _ _).drew
  ·first
   | exact ((Kp.refl _ _).setCell_at _ _).drew
   | exact (((Kp.refl _ _).setCell_at _ _).setCell_at _ _).drew
   | exact ((((Kp.refl _ _).setCell_at _ _).setCell_at _ _).setCell_at _ _).drew
  rw [e]
  refine ⟨⟨A,ca,none,0,rfl⟩,Nw.at_ (F:=fun k => k = x ∨ k = z) n0 ?_ (fun k hk => by omega)⟩
  try with_reducible refine Kp.drew ?_
  repeat (first | with_reducible exact Kp.refl _ _ | with_reducible refine Kp.setCell ?_ _ _ (.inr (by first | exact .inl rfl | exact .inr rfl)))
 have k6':(c.kind == 6) = false:=by simpa using k6
 by_cases k7:c.kind = 7
 ·have k7':(c.kind == 7) = true:=by simpa using k7
  have e:nameC c = ⟨c.kind,c.user,[],c.box,[],c.uids,0,0,0,[]⟩:=by unfold nameC; rw [if_neg k1]; rw [if_neg k4]; rw [if_neg k5]; rw [if_neg k6]; rw [if_pos k7]
  have kk:=k7'
  simp -dsimp [go_sem,k1',k4',k5',k6',k7',y0,y1,y2,y3,y4,y5,y6,y7,y8,y9,x0,x1,x2,x3,x4,x5,x6,x7,x8,x9,xf2,xf3,xf4,xf5,xf6,xf7,xf8,xf9,b0,b1,b2,b3,b4,b5,b6,b7,b8,b9,b0f,b1f,b2f,b3f,b4f,b5f,b6f,b7f,b8f,b9f]
  rw [e]
  refine ⟨⟨A,ca,none,0,rfl⟩,Nw.at_ (F:=fun k => k = x ∨ k = z) n0 ?_ (fun k hk => by omega)⟩
  try with_reducible refine Kp.drew ?_
  repeat (first | with_reducible exact Kp.refl _ _ | with_reducible refine Kp.setCell ?_ _ _ (.inr (by first | exact .inl rfl | exact .inr rfl)))
 have k7':(c.kind == 7) = false:=by simpa using k7
 by_cases k8:c.kind = 8
 ·have k8':(c.kind == 8) = true:=by simpa using k8
  have e:nameC c = ⟨c.kind,c.user,[],c.box,c.to,c.uids,0,0,0,[]⟩:=by unfold nameC; rw [if_neg k1]; rw [if_neg k4]; rw [if_neg k5]; rw [if_neg k6]; rw [if_neg k7]; rw [if_pos k8]
  simp -dsimp [go_sem,y0,k1',k4',k5',k6',k7',k8']
  refine draw (.take 0 (.take 1 (.take 2 (.take 3 (.take 4 (.alt 5 (.take 6 (.alt 7 .done .stop)) .stop)))))) (by kernel_rfl) (fun wz => Kp (At x) wx wz) ((Kp.refl _ _).drew) ?_
  simp -dsimp [go_sem,y0,y1,y2,y3,y4,y5,y6,y7,y8,y9,x0,x1,x2,x3,x4,x5,x6,x7,x8,x9,xf2,xf3,xf4,xf5,xf6,xf7,xf8,xf9,b0,b1,b2,b3,b4,b5,b6,b7,b8,b9,b0f,b1f,b2f,b3f,b4f,b5f,b6f,b7f,b8f,b9f]
  refine ⟨fun wz hz => by simp [hz.cell_some y5 hyx],fun wz hz => by simp [hz.cell_some y4 hyx],?_,?_,?_⟩
  ·first
   | exact ((Kp.refl _ _).setCell_at _ _).drew
   | exact (((Kp.refl _ _).setCell_at _ _).setCell_at _ _).drew
   | exact ((((Kp.refl _ _).setCell_at _ _).setCell_at _ _).setCell_at _ _).drew
  ·first
   | exact ((Kp.refl _ _).setCell_at _ _).drew
   | exact (((Kp.refl _ _).setCell_at _ _).setCell_at _ _).drew
   | exact ((((Kp.refl _ _).setCell_at _ _).setCell_at _ _).setCell_at _ _).drew
  rw [e]
  refine ⟨⟨A,ca,none,0,rfl⟩,Nw.at_ (F:=fun k => k = x ∨ k = z) n0 ?_ (fun k hk => by omega)⟩
  try with_reducible refine Kp.drew ?_
  repeat (first | with_reducible exact Kp.refl _ _ | with_reducible refine Kp.setCell ?_ _ _ (.inr (by first | exact .inl rfl | exact .inr rfl)))
 have k8':(c.kind == 8) = false:=by simpa using k8
 have e:nameC c = ⟨c.kind,c.user,[],c.box,[],[],0,0,0,[]⟩:=by unfold nameC; rw [if_neg k1]; rw [if_neg k4]; rw [if_neg k5]; rw [if_neg k6]; rw [if_neg k7]; rw [if_neg k8]
 simp -dsimp [go_sem,k1',k4',k5',k6',k7',k8',y0,y1,y2,y3,y4,y5,y6,y7,y8,y9,x0,x1,x2,x3,x4,x5,x6,x7,x8,x9,xf2,xf3,xf4,xf5,xf6,xf7,xf8,xf9,b0,b1,b2,b3,b4,b5,b6,b7,b8,b9,b0f,b1f,b2f,b3f,b4f,b5f,b6f,b7f,b8f,b9f]
 rw [e]
 refine ⟨⟨none,0,none,0,rfl⟩,Nw.at_ (F:=fun k => k = x ∨ k = z) n0 ?_ (fun k hk => by omega)⟩
 try with_reducible refine Kp.drew ?_
 repeat (first | with_reducible exact Kp.refl _ _ | with_reducible refine Kp.setCell ?_ _ _ (.inr (by first | exact .inl rfl | exact .inr rfl)))
theorem isNamed_spec (v:Value) (c:Chg) (w:World) (h:ChV v c):Cal Tryz.prog 78 #[v] w fun v' w' => v' = .bool (namedOk c) ∧ Nw w w':=by
 have hV:=h
 rw [← sameC_named c]
 obtain ⟨A,ca,B,cb,rfl⟩:=h
 refine enter Tryz.mixed Tryz.func78 rfl (by kernel_rfl) ?_
 simp -dsimp [go_sem]
 have k0:Nw w (w.alloc (.cells (chV c A ca B cb) 25)):=(Kp.refl _ _).alloc _
 have hy:=Blk.new w 25 (chV c A ca B cb)
 obtain ⟨y,hy'⟩:∃ y,y = w.heap.size:=⟨_,rfl⟩
 rw [← hy'] at hy ⊢
 generalize w.alloc (.cells (chV c A ca B cb) 25) = wa at *
 refine call (named_spec _ c wa hV) ?_
 rintro v w1 ⟨⟨A',ca',B',cb',rfl⟩,k1⟩
 obtain ⟨x,hx⟩:∃ x,x = nameC c:=⟨_,rfl⟩
 rw [← hx]
 have n1:=k0.nw k1
 have ka:Nw w1 (w1.alloc (.cells (chV x A' ca' B' cb') 25)):=(Kp.refl _ _).alloc _
 have hz:=Blk.new w1 25 (chV x A' ca' B' cb')
 have hyb:=(hy.nw k1).nw ka
 have n2:=n1.nw ka
 simp -dsimp [go_sem]
 obtain ⟨z,hz'⟩:∃ z,z = w1.heap.size:=⟨_,rfl⟩
 rw [← hz'] at hz ⊢
 generalize w1.alloc (.cells (chV x A' ca' B' cb') 25) = w2 at *
 have y0:=(hyb).cell 0
 have y1:=(hyb).cell 1
 have y2:=(hyb).cell 2
 have y3:=(hyb).cell 3
 have y4:=(hyb).cell 4
 have y5:=(hyb).cell 5
 have y6:=(hyb).cell 6
 have y7:=(hyb).cell 7
 have y8:=(hyb).cell 8
 have y9:=(hyb).cell 9
 have z0:=(hz).cell 0
 have z1:=(hz).cell 1
 have z2:=(hz).cell 2
 have z3:=(hz).cell 3
 have z4:=(hz).cell 4
 have z5:=(hz).cell 5
 have z6:=(hz).cell 6
 have z7:=(hz).cell 7
 have z8:=(hz).cell 8
 have z9:=(hz).cell 9
 obtain ⟨ul,hul⟩:∃ ul,ul = c.uids.length:=⟨_,rfl⟩
 obtain ⟨bl,hbl⟩:∃ bl,bl = c.body.length:=⟨_,rfl⟩
 obtain ⟨ul',hul'⟩:∃ ul,ul = x.uids.length:=⟨_,rfl⟩
 obtain ⟨bl',hbl'⟩:∃ bl,bl = x.body.length:=⟨_,rfl⟩
 have y5:w2.cell? ⟨y,5,none⟩ = some (.slice A ul ca):=hul ▸ y5
 have y9:w2.cell? ⟨y,9,none⟩ = some (.slice B bl cb):=hbl ▸ y9
 have z5:w2.cell? ⟨z,5,none⟩ = some (.slice A' ul' ca'):=hul' ▸ z5
 have z9:w2.cell? ⟨z,9,none⟩ = some (.slice B' bl' cb'):=hbl' ▸ z9
 unfold sameC
 rw [← hul,← hbl,← hul',← hbl']
 cases h0:(c.box == x.box) with
 | false =>
  simp -dsimp [go_sem,y0,y1,y2,y3,y4,y5,y6,y7,y8,y9,z0,z1,z2,z3,z4,z5,z6,z7,z8,z9,h0]
  exact n2
 | true =>
  cases h1:(c.pass == x.pass) with
  | false =>
   simp -dsimp [go_sem,y0,y1,y2,y3,y4,y5,y6,y7,y8,y9,z0,z1,z2,z3,z4,z5,z6,z7,z8,z9,h0,h1]
   exact n2
  | true =>
   cases h2:(c.to == x.to) with
   | false =>
    simp -dsimp [go_sem,y0,y1,y2,y3,y4,y5,y6,y7,y8,y9,z0,z1,z2,z3,z4,z5,z6,z7,z8,z9,h0,h1,h2]
    exact n2
   | true =>
    cases h3:((ul:Int) == (ul':Int)) with
    | false =>
     simp -dsimp [go_sem,y0,y1,y2,y3,y4,y5,y6,y7,y8,y9,z0,z1,z2,z3,z4,z5,z6,z7,z8,z9,h0,h1,h2,h3]
     exact n2
    | true =>
     cases h4:(c.mode == x.mode) with
     | false =>
      simp -dsimp [go_sem,y0,y1,y2,y3,y4,y5,y6,y7,y8,y9,z0,z1,z2,z3,z4,z5,z6,z7,z8,z9,h0,h1,h2,h3,h4]
      exact n2
     | true =>
      cases h5:(c.flags == x.flags) with
      | false =>
       simp -dsimp [go_sem,y0,y1,y2,y3,y4,y5,y6,y7,y8,y9,z0,z1,z2,z3,z4,z5,z6,z7,z8,z9,h0,h1,h2,h3,h4,h5]
       exact n2
      | true =>
       cases h6:(c.date == x.date) with
       | false =>
        simp -dsimp [go_sem,y0,y1,y2,y3,y4,y5,y6,y7,y8,y9,z0,z1,z2,z3,z4,z5,z6,z7,z8,z9,h0,h1,h2,h3,h4,h5,h6]
        exact n2
       | true =>
        cases h7:((bl:Int) == (bl':Int)) with
        | false =>
         simp -dsimp [go_sem,y0,y1,y2,y3,y4,y5,y6,y7,y8,y9,z0,z1,z2,z3,z4,z5,z6,z7,z8,z9,h0,h1,h2,h3,h4,h5,h6,h7]
         exact n2
        | true =>
         simp -dsimp [go_sem,y0,y1,y2,y3,y4,y5,y6,y7,y8,y9,z0,z1,z2,z3,z4,z5,z6,z7,z8,z9,h0,h1,h2,h3,h4,h5,h6,h7]
         exact n2
end Go.Proofs.YtellahclbhfdiaaGreatDoor
