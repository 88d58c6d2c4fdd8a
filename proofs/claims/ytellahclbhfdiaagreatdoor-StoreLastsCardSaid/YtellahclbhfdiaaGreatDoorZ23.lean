/-
  A store's plans walked: adds, creates, renames, keeps. By the session itself. A change told: the UIDs. By the session itself. The reference's store: in, pass, uids, walked. By the session itself. The reference's Is, walked. By the session itself. A store's plans walked: keeps, creates, renames. By the session itself.
-/
import Derived.Test.YtellahclbhfdiaaGreatDoorZ22
import Derived.Test.YtellahclbhfdiaaGreatDoorZ13
import Derived.Test.YtellahclbhfdiaaGreatDoorZ06
namespace Go.Proofs.YtellahclbhfdiaaGreatDoor
set_option linter.unusedSimpArgs false
set_option linter.unusedVariables false
set_option maxRecDepth 100000
set_option maxHeartbeats 1000000
open Go.Vc Go.RowKit
@[go_sem] theorem st_nilFunc {P:Program} {w:World} {a:Addr} {m:Mode}:(store a .nilFunc m).run P w = stored P w a .nilFunc m:=run_store P w a _ m rfl
@[go_sem] theorem st_func {P:Program} {w:World} {a:Addr} {m:Mode} (fn:Fn) (first captured:Array Value):(store a (.func fn first captured) m).run P w = stored P w a (.func fn first captured) m:=run_store P w a _ m rfl
/-- A change's cells. -/
abbrev chV (c:Chg) (A:Option Addr) (ca:Nat) (B:Option Addr) (cb:Nat):Array Value:=#[i64 c.kind,str c.user,str c.pass,str c.box,str c.to,.slice A c.uids.length ca,i64 c.mode,i64 c.flags,i64 c.date,.slice B c.body.length cb]
/-- A change that reads; what it reads lies outside S. -/
def RC (w:World) (v:Value) (c:Chg) (S:Nat → Prop):Prop:=∃ A ca B cb,v = .agg (chV c A ca B cb) ∧ c.uids.length ≤ ca ∧ c.body.length ≤ cb ∧ Rd w A (c.uids.map i64) ∧ Ofl A (c.uids.map i64) S ∧ Rd w B (c.body.map u8) ∧ Ofl B (c.body.map u8) S
theorem RC.nw {w w':World} {v:Value} {c:Chg} {S:Nat → Prop} (h:RC w v c S) (k:Nw w w'):RC w' v c S:=by
 obtain ⟨A,ca,B,cb,h1,h2,h3,h4,h5,h6,h7⟩:=h
 exact ⟨A,ca,B,cb,h1,h2,h3,h4.nw k,h5,h6.nw k,h7⟩
/-- What was planned is done. -/
def DoneR (w w':World) (t:Nat) (T:Stt) (F V:Nat → Prop):Prop:=∃ F1 V1,SttA w' t T F1 V1 ∧ Gr F F1 w w' ∧ Gr V V1 w w' ∧ (∀ i,V i → V1 i) ∧ Kp F w w'
/-- A function value that does it, in any later world in which the state has not turned. -/
def Does (w:World) (f:Value) (t:Nat) (T:Stt) (F V:Nat → Prop):Prop:=∃ fid caps,f = .func (.func fid) #[] caps ∧ isGo Tryz.prog fid = true ∧
 ∀ S V' w2,Kp S w w2 → (∀ i,S i → V i ∧ ¬ F i) → Gr V V' w w2 → (∀ i,V i → V' i) → Cal Tryz.prog fid caps w2 fun v w3 => v = .tuple #[] ∧ DoneR w2 w3 t T F V'
def PlanR (w:World) (v:Value) (t:Nat) (P:Int × Int × Stt) (F V:Nat → Prop):Prop:=(P.1 ≠ 0 ∧ v = .agg #[.nilFunc,i64 0,i64 P.1]) ∨ (P.1 = 0 ∧ ∃ f,v = .agg #[f,i64 P.2.1,i64 0] ∧ Does w f t P.2.2 F V)
theorem set3 (w:World) (z:Nat) (a b c:Value):Kp (At z) w (((w.setCell ⟨z,0,none⟩ a).setCell ⟨z,1,none⟩ b).setCell ⟨z,2,none⟩ c):=(((Kp.refl _ _).setCell_at _ _).setCell_at _ _).setCell_at _ _
theorem refused_spec (e:Int) (w:World):Cal Tryz.prog 87 #[i64 e] w fun v w' => v = .agg #[.nilFunc,i64 0,i64 e] ∧ Nw w w':=by
 refine enter Tryz.mixed Tryz.func87 rfl (by kernel_rfl) ?_
 simp -dsimp [go_sem]
 exact (Kp.refl _ _).alloc _
theorem keys_nodup {β:Type} {l:List (Nm × β)} (h:Srt l):(keysA l).Nodup:=by
 unfold keysA Srt at *
 rw [List.nodup_iff_pairwise_ne,List.pairwise_map]
 exact h.imp fun {a b} h => nm_ne h
theorem Mu_some (ptr:Nm → Nat) (l:List (Nm × Usr)) (a:Nm):(Mu ptr l a).isSome = true ↔ a ∈ keysA l:=by rw [← tLook_keys]; unfold Mu; simp
theorem Mb_some (vb:Nm → Value) (l:List (Nm × Bx)) (a:Nm):(Mb vb l a).isSome = true ↔ a ∈ keysA l:=by rw [← tLook_keys]; unfold Mb; simp
theorem three_new (w:World) (t u v:TypeId) (cs ds es:Array Value):∃ x y z,x = w.heap.size ∧ y = x + 1 ∧ z = y + 1 ∧ Blk (((w.alloc (.cells cs t)).alloc (.cells ds u)).alloc (.cells es v)) x t cs ∧ Blk (((w.alloc (.cells cs t)).alloc (.cells ds u)).alloc (.cells es v)) y u ds ∧
  Blk (((w.alloc (.cells cs t)).alloc (.cells ds u)).alloc (.cells es v)) z v es ∧ (((w.alloc (.cells cs t)).alloc (.cells ds u)).alloc (.cells es v)).heap.size = z + 1 ∧ Nw w (((w.alloc (.cells cs t)).alloc (.cells ds u)).alloc (.cells es v)):=by
 have k1:∀ (w:World) o,Nw w (w.alloc o):=fun w o => (Kp.refl _ _).alloc _
 have b1:=Blk.new w t cs
 have b2:=Blk.new (w.alloc (.cells cs t)) u ds
 have b3:=Blk.new ((w.alloc (.cells cs t)).alloc (.cells ds u)) v es
 have s1:(w.alloc (.cells cs t)).heap.size = w.heap.size + 1:=by simp
 have s2:((w.alloc (.cells cs t)).alloc (.cells ds u)).heap.size = w.heap.size + 1 + 1:=by simp
 rw [s1] at b2
 rw [s2] at b3
 exact ⟨_,_,_,rfl,rfl,rfl,(b1.nw (k1 _ _)).nw (k1 _ _),b2.nw (k1 _ _),b3,by simp,((k1 _ _).nw (k1 _ _)).nw (k1 _ _)⟩
/-- Later the same holds of what has not turned. -/
theorem vlt {V V':Nat → Prop} {w w2:World} (hVl:∀ i,V i → i < w.heap.size) (hs:w.heap.size ≤ w2.heap.size) (hG:Gr V V' w w2):∀ i,V' i → i < w2.heap.size:=fun i hi => (hG i hi).elim (fun e => Nat.lt_of_lt_of_le (hVl i e) hs) fun e => e.2
theorem adds_does {t x y:Nat} {T:Stt} {F V:Nat → Prop} {c:Chg} {A B:Option Addr} {ca cb N:Nat} {w:World} (h:SttA w t T F V) (ok:T.Ok) (hVl:∀ i,V i → i < N) (hN:N ≤ w.heap.size) (hu:tLook T.us c.user = none) (hy:Blk w y 25 (chV c A ca B cb)) (hx:Blk w x 95 #[.pointer (some ⟨t,0,none⟩)]) (hyN:N ≤ y) (hxN:N ≤ x) :
  Does w (.func (.func 142) #[] #[.pointer (some ⟨y,0,none⟩),.pointer (some ⟨x,0,none⟩)]) t ⟨T.next + 1,tLay T.us c.user ⟨c.pass,[(inboxN,newB inboxN T.next)]⟩⟩ F V:=by
 refine ⟨_,_,rfl,by kernel_rfl,fun S V' w2 k hS hG hV => ?_⟩
 have hFl:∀ i,F i → i < N:=fun i hi => by
  obtain ⟨r,ptr,rb,vb,Fs,hM⟩:=h
  exact hVl i (hM.fv i hi)
 obtain ⟨r,ptr,rb,vb,Fs,hM⟩:=h.step k hS hG hV
 have hy2:=hy.kp k fun e => by have:=hVl y (hS y e).1; omega
 have hx2:=hx.kp k fun e => by have:=hVl x (hS x e).1; omega
 have hVl2:=vlt (fun i hi => Nat.lt_of_lt_of_le (hVl i hi) hN) k.size hG
 refine (adds1_spec hM hVl2 hu ok.next (hy2.cell 1) (hy2.cell 2) hx2 (fun e => by have:=hFl y e; omega) (fun e => by have:=hFl x e; omega)).mono ?_
 rintro v w3 ⟨rfl,p,q,h1,h2,h3,h4,h5,h6⟩
 exact ⟨rfl,_,_,h5,fun i hi => hi.imp id fun e => by rcases e with rfl | rfl <;> omega,fun i hi => hi.imp id fun e => by rcases e with rfl | rfl <;> omega,fun i hi => .inl hi,h6⟩
theorem adds_spec (t:Nat) (T:Stt) (F V:Nat → Prop) (c:Chg) (v:Value) (w:World) (h:SttA w t T F V) (ok:T.Ok) (hVl:∀ i,V i → i < w.heap.size) (hc:RC w v c V) :
  Cal Tryz.prog 86 #[.pointer (some ⟨t,0,none⟩),v] w fun v w' => PlanR w' v t (plAdd T c) F V ∧ Nw w w':=by
 obtain ⟨A,ca,B,cb,rfl,hca,hcb,hrA,hoA,hrB,hoB⟩:=hc
 refine enter Tryz.mixed Tryz.func86 rfl (by kernel_rfl) ?_
 simp -dsimp [go_sem]
 obtain ⟨x,y,z,hx',hy',hz',hx,hy,hz,hsz,n0⟩:=three_new w 95 25 100 #[.pointer (some ⟨t,0,none⟩)] (chV c A ca B cb) #[.nilFunc,i64 0,i64 0]
 rw [← hx',← hy',← hz']
 generalize ((w.alloc (.cells #[.pointer (some ⟨t,0,none⟩)] 95)).alloc (.cells (chV c A ca B cb) 25)).alloc (.cells #[.nilFunc,i64 0,i64 0] 100) = wa at *
 have x0:=hx.cell 0
 have y1:=hy.cell 1
 obtain ⟨r,ptr,rb,vb,Fs,hM⟩:=h.nw n0
 have t1:=hM.blk.cell 1
 refine draw (.take 0 (.take 1 (.take 2 (.take 3 (.take 4 (.take 5 (.take 6 (.take 7 (.take 8 .done))))))))) (by kernel_rfl) (fun wz => Nw wa wz) ((Kp.refl _ _).drew) ?_
 have x0z:∀ wz,Nw wa wz → wz.cell? ⟨x,0,none⟩ = some (.pointer (some ⟨t,0,none⟩)):=fun wz hk => hk.cell_some x0 fun h => h
 have hlz:∀ wz,Nw wa wz → (Instr.lookup 117 (.map (some r)) (str c.user) false).run Tryz.prog wz = .ok ((Mu ptr T.us c.user).getD (.pointer none)) wz:=fun wz hk => lookup_mp KL hmu (z:=.pointer none) (w:=wz) rfl (hM.mp.kp hk fun h => h) c.user false
 have hlk:=hlz wa.drew ((Kp.refl _ _).drew)
 cases hu:tLook T.us c.user with
 | some u =>
  have hpl:plAdd T c = (8,0,T):=by unfold plAdd; rw [hu]; rfl
  rw [show Mu ptr T.us c.user = some (.pointer (some ⟨ptr c.user,0,none⟩)) by simp [Mu,hu]] at hlz hlk
  simp -dsimp [go_sem,x0,y1,t1,hlk]
  refine ⟨fun wz hz => by simp [hz.cell_some x0 fun h => h],fun wz hz => by simp [hz.cell_some t1 fun h => h],fun wz hz => by simp [hz.cell_some y1 fun h => h],fun wz hk => by simp [hlz wz hk],?_⟩
  have kdr:Nw wa wa.drew:=(Kp.refl _ _).drew
  have hzd:=hz.nw kdr
  refine call (refused_spec 8 _) ?_
  rintro v w1 ⟨rfl,k1⟩
  have n1:=Kp.nw (n0.nw kdr) k1
  have hz1:=Blk.nw hzd k1
  have z0c:=hz1.cell 0
  have z1c:=hz1.cell 1
  have z2c:=hz1.cell 2
  have z0f:=hz1.frozen 0
  have z1f:=hz1.frozen 1
  have z2f:=hz1.frozen 2
  simp -dsimp [go_sem,z0c,z1c,z2c,z0f,z1f,z2f]
  rw [hpl]
  exact ⟨.inl ⟨by simp,rfl⟩,n1.at_ (set3 w1 z _ _ _) fun k (e:k = z) => by omega⟩
 | none =>
  rw [show Mu ptr T.us c.user = none by simp [Mu,hu]] at hlz hlk
  have kdr:Nw wa wa.drew:=(Kp.refl _ _).drew
  have hzd:=hz.nw kdr
  have hlen:=len_mp (ty:=3) (w:=wa.drew) KL hmu (hM.mp.kp kdr fun h => h) (keys_nodup ok.srt) (Mu_some ptr T.us)
  rw [show (keysA T.us).length = T.us.length by simp [keysA]] at hlen
  have hpl:plAdd T c = if 4 ≤ T.us.length then (6,0,T) else if 1048576 ≤ T.next then (10,0,T) else (0,0,⟨T.next + 1,tLay T.us c.user ⟨c.pass,[(inboxN,newB inboxN T.next)]⟩⟩):=by unfold plAdd; rw [hu]; rfl
  by_cases h4:4 ≤ T.us.length
  ·have h4':(4:Int) ≤ (T.us.length:Int):=by omega
   rw [if_pos h4] at hpl
   simp -dsimp [go_sem,x0,y1,t1,hlk,hlen,h4,h4']
   refine ⟨fun wz hz => by simp [hz.cell_some x0 fun h => h],fun wz hz => by simp [hz.cell_some t1 fun h => h],fun wz hz => by simp [hz.cell_some y1 fun h => h],fun wz hk => by simp [hlz wz hk],?_⟩
   refine call (refused_spec 6 _) ?_
   rintro v w1 ⟨rfl,k1⟩
   have n1:=Kp.nw (n0.nw kdr) k1
   have hz1:=Blk.nw hzd k1
   have z0c:=hz1.cell 0
   have z1c:=hz1.cell 1
   have z2c:=hz1.cell 2
   have z0f:=hz1.frozen 0
   have z1f:=hz1.frozen 1
   have z2f:=hz1.frozen 2
   simp -dsimp [go_sem,z0c,z1c,z2c,z0f,z1f,z2f]
   rw [hpl]
   exact ⟨.inl ⟨by simp,rfl⟩,n1.at_ (set3 w1 z _ _ _) fun k (e:k = z) => by omega⟩
  ·have h4':¬ (4:Int) ≤ (T.us.length:Int):=by omega
   rw [if_neg h4] at hpl
   have t0:=hM.blk.cell 0
   by_cases hn:1048576 ≤ T.next
   ·rw [if_pos hn] at hpl
    simp -dsimp [go_sem,x0,y1,t0,t1,hlk,hlen,h4,h4',hn]
    refine ⟨fun wz hz => by simp [hz.cell_some x0 fun h => h],fun wz hz => by simp [hz.cell_some t1 fun h => h],fun wz hz => by simp [hz.cell_some y1 fun h => h],fun wz hk => by simp [hlz wz hk],?_⟩
    refine call (refused_spec 10 _) ?_
    rintro v w1 ⟨rfl,k1⟩
    have n1:=Kp.nw (n0.nw kdr) k1
    have hz1:=Blk.nw hzd k1
    have z0c:=hz1.cell 0
    have z1c:=hz1.cell 1
    have z2c:=hz1.cell 2
    have z0f:=hz1.frozen 0
    have z1f:=hz1.frozen 1
    have z2f:=hz1.frozen 2
    simp -dsimp [go_sem,z0c,z1c,z2c,z0f,z1f,z2f]
    rw [hpl]
    exact ⟨.inl ⟨by simp,rfl⟩,n1.at_ (set3 w1 z _ _ _) fun k (e:k = z) => by omega⟩
   ·rw [if_neg hn] at hpl
    have z0c:=hz.cell 0
    have z1c:=hz.cell 1
    have z2c:=hz.cell 2
    have z0f:=hz.frozen 0
    have z1f:=hz.frozen 1
    have z2f:=hz.frozen 2
    simp -dsimp [go_sem,x0,y1,t0,t1,hlk,hlen,h4,h4',hn]
    refine ⟨fun wz hz => by simp [hz.cell_some x0 fun h => h],fun wz hz => by simp [hz.cell_some t1 fun h => h],fun wz hz => by simp [hz.cell_some y1 fun h => h],fun wz hk => by simp [hlz wz hk],?_⟩
    simp [go_sem,z0c,z1c,z2c,z0f,z1f,z2f]
    have nf:=fun a b c => (n0.at_ (set3 wa z a b c) fun k (e:k = z) => by omega).drew
    rw [hpl]
    have hxf:=fun a b c => (hx.kp (set3 wa z a b c) fun (e:x = z) => by omega).nw ((Kp.refl (fun _ => False) _).drew)
    have hyf:=fun a b c => (hy.kp (set3 wa z a b c) fun (e:y = z) => by omega).nw ((Kp.refl (fun _ => False) _).drew)
    exact ⟨.inr ⟨rfl,_,rfl,adds_does (h.nw (nf _ _ _)) ok hVl (nf _ _ _).size hu (hyf _ _ _) (hxf _ _ _) (by omega) (by omega)⟩,nf _ _ _⟩
theorem riseU_bad {l:List Int}:∀ {n i:Nat},i < n → stepU l i = false → riseU l n = false
 | 0,i,h,_ => by omega
 | n + 1,i,h,hs => by
  simp only [riseU]
  by_cases hi:i = n
  ·subst hi; rw [hs,Bool.and_false]
  ·rw [riseU_bad (show i < n by omega) hs,Bool.false_and]
theorem suids_spec (l:List Int) (A:Option Addr) (c:Nat) (w:World) (hr:Rd w A (l.map i64)) (hl:l.length ≤ 9223372036854775807) (hb:∀ n ∈ l,-9223372036854775808 ≤ n ∧ n ≤ 9223372036854775807) :
  Cal Tryz.prog 79 #[.slice A l.length c] w fun v w' => v = .bool (uidsOk l) ∧ w' = w:=by
 refine enter Tryz.mixed Tryz.func79 rfl (by kernel_rfl) ?_
 simp -dsimp [go_sem]
 refine loop [2,3,4,7,8,9,10,11,12,13,14,15,16,17,18,19,20,21,22,23,24,25,26,27,28] (by kernel_rfl)
  (fun f w' => Box1 (fun a w' => ∃ i:Nat,a = i64 i ∧ i ≤ l.length ∧ riseU l i = true ∧ w' = w) (f 7) w') (fun f _ => l.length - (intOf (f 7)).toNat) ⟨0,rfl,Nat.zero_le _,rfl,rfl⟩ ?_
 rintro f w' ⟨i,f7,hi,hri,rfl⟩
 by_cases hlt:i < l.length
 ·obtain ⟨ga,o,rfl,e0⟩:=hr i (i64 l[i]) (by simp [hlt])
  have hi1:IntKind.i64.wrap ((i:Int) + 1) = ((i + 1:Nat):Int):=by rw [w64 (by omega) (by omega)]; omega
  have hstep:stepU l i = (okF l[i] 1 1048576 && (decide (i = 0) || decide (l.getD (i - 1) 0 < l[i]))):=by
   unfold stepU
   rw [List.getD_eq_getElem?_getD,List.getElem?_eq_getElem hlt]; rfl
  have bad:stepU l i = false → uidsOk l = false:=fun h => by unfold uidsOk; rw [riseU_bad hlt h,Bool.false_and]
  have good:stepU l i = true → riseU l (i + 1) = true:=fun h => by simp only [riseU]; rw [hri,h]; rfl
  obtain ⟨i1,hi1'⟩:∃ i1,i1 = i + 1:=⟨_,rfl⟩
  rw [← hi1'] at hi1 good
  by_cases h0:i = 0
  ·subst h0
   rw [Nat.add_zero] at e0
   have hi1b:IntKind.i64.wrap 1 = (i1:Int):=by rw [w64 (by omega) (by omega)]; omega
   generalize l[0] = m at *
   simp -dsimp [go_sem,f7,hlt,e0]
   refine call (sin_spec m 1 1048576 _) ?_
   rintro v w2 ⟨rfl,e⟩
   obtain rfl:=e.symm
   cases hm:okF m 1 1048576 with
   | false =>
    simp -dsimp [go_sem]
    exact bad (by rw [hstep,hm]; rfl)
   | true =>
    simp -dsimp [go_sem,f7,hi1,hi1b]
    exact ⟨⟨i1,rfl,by omega,good (by rw [hstep,hm]; rfl),rfl⟩,by simp [intOf]; omega⟩
  ·obtain ⟨k,hk⟩:∃ k,i = k + 1:=⟨i - 1,by omega⟩
   have hkl:k < l.length:=by omega
   obtain ⟨gb,o2,ho,e1⟩:=hr k (i64 l[k]) (by simp [hkl])
   cases ho
   have hpos:(0:Int) < (i:Int):=by omega
   have hposN:0 < i:=by omega
   have hw:IntKind.i64.wrap ((i:Int) - 1) = (k:Int):=by rw [w64 (by omega) (by omega)]; omega
   have hgd:l.getD (i - 1) 0 = l[k]:=by rw [show i - 1 = k by omega,List.getD_eq_getElem?_getD,List.getElem?_eq_getElem hkl]; rfl
   rw [hgd,decide_eq_false h0,Bool.false_or] at hstep
   generalize l[i] = m at *
   generalize l[k] = p at *
   simp -dsimp [go_sem,f7,hlt,e0]
   refine call (sin_spec m 1 1048576 _) ?_
   rintro v w2 ⟨rfl,e⟩
   obtain rfl:=e.symm
   cases hm:okF m 1 1048576 with
   | false =>
    simp -dsimp [go_sem]
    exact bad (by rw [hstep,hm]; rfl)
   | true =>
    by_cases hpm:p < m
    ·have hpm':¬ m ≤ p:=by omega
     simp -dsimp [go_sem,f7,hi1,h0,hpos,hposN,hw,hkl,e1,hpm,hpm']
     exact ⟨⟨i1,rfl,by omega,good (by rw [hstep,hm,decide_eq_true hpm]; rfl),rfl⟩,by simp [intOf]; omega⟩
    ·have hpm':m ≤ p:=by omega
     simp -dsimp [go_sem,h0,hpos,hposN,hw,hkl,e1,hpm,hpm']
     exact bad (by rw [hstep,hm,decide_eq_false hpm]; rfl)
 ·obtain rfl:i = l.length:=by omega
  have hfin:uidsOk l = decide (l.length ≤ 24):=by unfold uidsOk; rw [hri]; rfl
  by_cases h24:l.length ≤ 24
  ·have h24':(l.length:Int) ≤ 24:=by omega
   simp -dsimp [go_sem,f7,hlt,h24,h24']
   rw [hfin]; simpa using h24
  ·have h24':¬ (l.length:Int) ≤ 24:=by omega
   simp -dsimp [go_sem,f7,hlt,h24,h24']
   rw [hfin]; simpa using h24
set_option maxHeartbeats 2000000
section
variable {us ps bx to:Nm} {ul:List Int} {m f d:Int} {bd:List UInt8}
end
set_option maxHeartbeats 1000000
theorem keeps_does {t x y r N:Nat} {T:Stt} {F V:Nat → Prop} {ptr rb:Nm → Nat} {vb:Nm → Nm → Value} {Fs:Nm → Nat → Prop} {s n:Nm} {u:Usr} {b:Bx} {vL:Value} {w:World} (h:SttM w t T F V r ptr rb vb Fs) (hVl:∀ i,V i → i < N) (hN:N ≤ w.heap.size) (hu:tLook T.us s = some u)
  (hy:Blk w y 111 #[str n,i64 b.val,i64 b.next,vL]) (hx:Blk w x 116 #[.pointer (some ⟨ptr s,0,none⟩)]) (hn:b.name = ⟨n.toArray⟩) (hb:RB w (.agg #[.string b.name,i64 b.val,i64 b.next,vL]) b V) (hyN:N ≤ y) (hxN:N ≤ x) :
  Does w (.func (.func 148) #[] #[.pointer (some ⟨y,0,none⟩),.pointer (some ⟨x,0,none⟩)]) t (T.turn s u (tLay u.bx n b)) F V:=by
 refine ⟨_,_,rfl,by kernel_rfl,fun S V' w2 k hS hG hV => ?_⟩
 have hFl:∀ i,F i → i < N:=fun i hi => hVl i (h.fv i hi)
 have hM:=h.step k hS hG hV
 have hy2:=hy.kp k fun e => by have:=hVl y (hS y e).1; omega
 have hx2:=hx.kp k fun e => by have:=hVl x (hS x e).1; omega
 refine (keeps1_spec hM hu hy2 hx2 hn (hb.step (k.mono fun i _ hi => (hS i hi).1) hG) (fun e => by have:=hFl y e; omega) (fun e => by have:=hFl x e; omega)).mono ?_
 rintro v w3 ⟨rfl,h5,h6⟩
 exact ⟨rfl,_,_,h5,fun i hi => .inl hi,fun i hi => .inl hi,fun i hi => hi,h6⟩
theorem keeps_spec {t r:Nat} {T:Stt} {F V:Nat → Prop} {ptr rb:Nm → Nat} {vb:Nm → Nm → Value} {Fs:Nm → Nat → Prop} {s n:Nm} {u:Usr} {b:Bx} (w:World) (v:Value) (h:SttM w t T F V r ptr rb vb Fs) (hVl:∀ i,V i → i < w.heap.size) (hu:tLook T.us s = some u) (hn:b.name = ⟨n.toArray⟩) (hb:RB w v b V) (k e:Int) :
  Cal Tryz.prog 92 #[.pointer (some ⟨ptr s,0,none⟩),v,i64 k,i64 e] w fun v w' => PlanR w' v t (plKeep T s u n b k e) F V ∧ Nw w w':=by
 have hRB:=hb
 obtain ⟨A,c,q,rfl,hq,hc,hr,ho,hbd⟩:=hb
 refine enter Tryz.mixed Tryz.func92 rfl (by kernel_rfl) ?_
 rw [hn]
 simp -dsimp [go_sem]
 obtain ⟨x,y,z,hx',hy',hz',hx,hy,hz,hsz,n0⟩:=three_new w 116 111 100 #[.pointer (some ⟨ptr s,0,none⟩)] #[str n,i64 b.val,i64 b.next,.slice A b.L.length c] #[.nilFunc,i64 0,i64 0]
 rw [← hx',← hy',← hz']
 generalize ((w.alloc (.cells #[.pointer (some ⟨ptr s,0,none⟩)] 116)).alloc (.cells #[str n,i64 b.val,i64 b.next,.slice A b.L.length c] 111)).alloc (.cells #[.nilFunc,i64 0,i64 0] 100) = wa at *
 by_cases he:e = 0
 ·have hpl:plKeep T s u n b k e = (0,k,T.turn s u (tLay u.bx n b)):=by unfold plKeep; rw [if_neg (by simpa using he)]
  subst he
  have z0c:=hz.cell 0
  have z1c:=hz.cell 1
  have z2c:=hz.cell 2
  have z0f:=hz.frozen 0
  have z1f:=hz.frozen 1
  have z2f:=hz.frozen 2
  simp -dsimp [go_sem]
  simp [go_sem,z0c,z1c,z2c,z0f,z1f,z2f]
  have nf:=fun a b c => n0.at_ (set3 wa z a b c) fun k (e:k = z) => by omega
  rw [hpl]
  have hxf:=fun a b c => hx.kp (set3 wa z a b c) fun (e:x = z) => by omega
  have hyf:=fun a b c => hy.kp (set3 wa z a b c) fun (e:y = z) => by omega
  exact ⟨.inr ⟨rfl,_,rfl,keeps_does (h.nw (nf _ _ _)) hVl (nf _ _ _).size hu (hyf _ _ _) (hxf _ _ _) hn (hRB.nw (nf _ _ _)) (by omega) (by omega)⟩,nf _ _ _⟩
 ·have hpl:plKeep T s u n b k e = (e,0,T):=by unfold plKeep; rw [if_pos he]
  have hne:(e != 0) = true:=by simpa using he
  simp -dsimp [go_sem,hne]
  refine call (refused_spec e _) ?_
  rintro v w1 ⟨rfl,k1⟩
  have n1:=n0.nw k1
  have hz1:=hz.nw k1
  have z0c:=hz1.cell 0
  have z1c:=hz1.cell 1
  have z2c:=hz1.cell 2
  have z0f:=hz1.frozen 0
  have z1f:=hz1.frozen 1
  have z2f:=hz1.frozen 2
  simp -dsimp [go_sem,z0c,z1c,z2c,z0f,z1f,z2f]
  rw [hpl]
  exact ⟨.inl ⟨he,rfl⟩,n1.at_ (set3 w1 z _ _ _) fun k (e:k = z) => by omega⟩
theorem four_new (w:World) (t u v v':TypeId) (cs ds es fs:Array Value):∃ x y z g,x = w.heap.size ∧ y = x + 1 ∧ z = y + 1 ∧ g = z + 1 ∧ Blk ((((w.alloc (.cells cs t)).alloc (.cells ds u)).alloc (.cells es v)).alloc (.cells fs v')) x t cs ∧ Blk ((((w.alloc (.cells cs t)).alloc (.cells ds u)).alloc (.cells es v)).alloc (.cells fs v')) y u ds ∧
  Blk ((((w.alloc (.cells cs t)).alloc (.cells ds u)).alloc (.cells es v)).alloc (.cells fs v')) z v es ∧ Blk ((((w.alloc (.cells cs t)).alloc (.cells ds u)).alloc (.cells es v)).alloc (.cells fs v')) g v' fs ∧ ((((w.alloc (.cells cs t)).alloc (.cells ds u)).alloc (.cells es v)).alloc (.cells fs v')).heap.size = g + 1 ∧ Nw w ((((w.alloc (.cells cs t)).alloc (.cells ds u)).alloc (.cells es v)).alloc (.cells fs v')):=by
 obtain ⟨x,y,z,h1,h2,h3,b1,b2,b3,hs,n⟩:=three_new w t u v cs ds es
 have k:Nw _ ((((w.alloc (.cells cs t)).alloc (.cells ds u)).alloc (.cells es v)).alloc (.cells fs v')):=(Kp.refl _ _).alloc _
 have b4:=Blk.new (((w.alloc (.cells cs t)).alloc (.cells ds u)).alloc (.cells es v)) v' fs
 rw [hs] at b4
 exact ⟨x,y,z,z + 1,h1,h2,h3,rfl,b1.nw k,b2.nw k,b3.nw k,b4,by simp [hs],n.nw k⟩
theorem creates_does {t x y z r N:Nat} {T:Stt} {F V:Nat → Prop} {ptr rb:Nm → Nat} {vb:Nm → Nm → Value} {Fs:Nm → Nat → Prop} {c:Chg} {A B:Option Addr} {ca cb:Nat} {u:Usr} {w:World} (h:SttM w t T F V r ptr rb vb Fs) (ok:T.Ok) (hVl:∀ i,V i → i < N) (hN:N ≤ w.heap.size) (hu:tLook T.us c.user = some u)
  (hy:Blk w y 25 (chV c A ca B cb)) (hx:Blk w x 116 #[.pointer (some ⟨ptr c.user,0,none⟩)]) (hz:Blk w z 95 #[.pointer (some ⟨t,0,none⟩)]) (hyN:N ≤ y) (hxN:N ≤ x) (hzN:N ≤ z) :
  Does w (.func (.func 144) #[] #[.pointer (some ⟨y,0,none⟩),.pointer (some ⟨z,0,none⟩),.pointer (some ⟨x,0,none⟩)]) t { T.turn c.user u (tLay u.bx c.box (newB c.box T.next)) with next:=T.next + 1 } F V:=by
 refine ⟨_,_,rfl,by kernel_rfl,fun S V' w2 k hS hG hV => ?_⟩
 have hFl:∀ i,F i → i < N:=fun i hi => hVl i (h.fv i hi)
 have hM:=h.step k hS hG hV
 have hy2:=hy.kp k fun e => by have:=hVl y (hS y e).1; omega
 have hx2:=hx.kp k fun e => by have:=hVl x (hS x e).1; omega
 have hz2:=hz.kp k fun e => by have:=hVl z (hS z e).1; omega
 have hVl2:=vlt (fun i hi => Nat.lt_of_lt_of_le (hVl i hi) hN) k.size hG
 refine (creates1_spec hM hVl2 hu ok.next (hy2.cell 3) hx2 hz2 (fun e => by have:=hFl y e; omega) (fun e => by have:=hFl x e; omega) (fun e => by have:=hFl z e; omega)).mono ?_
 rintro v w3 ⟨rfl,h5,h6⟩
 exact ⟨rfl,_,_,h5,fun i hi => .inl hi,fun i hi => .inl hi,fun i hi => hi,h6⟩
theorem gone_does {t x y r N:Nat} {T:Stt} {F V:Nat → Prop} {ptr rb:Nm → Nat} {vb:Nm → Nm → Value} {Fs:Nm → Nat → Prop} {c:Chg} {A B:Option Addr} {ca cb:Nat} {u:Usr} {w:World} (h:SttM w t T F V r ptr rb vb Fs) (ok:T.Ok) (hVl:∀ i,V i → i < N) (hN:N ≤ w.heap.size) (hu:tLook T.us c.user = some u)
  (hy:Blk w y 25 (chV c A ca B cb)) (hx:Blk w x 116 #[.pointer (some ⟨ptr c.user,0,none⟩)]) (hyN:N ≤ y) (hxN:N ≤ x) :
  Does w (.func (.func 89) #[] #[.pointer (some ⟨x,0,none⟩),.pointer (some ⟨y,0,none⟩)]) t (T.turn c.user u (tGone u.bx c.box)) F V:=by
 refine ⟨_,_,rfl,by kernel_rfl,fun S V' w2 k hS hG hV => ?_⟩
 have hFl:∀ i,F i → i < N:=fun i hi => hVl i (h.fv i hi)
 have hM:=h.step k hS hG hV
 have hy2:=hy.kp k fun e => by have:=hVl y (hS y e).1; omega
 have hx2:=hx.kp k fun e => by have:=hVl x (hS x e).1; omega
 refine (plans1_spec hM (fun s u hu => (ok.us s u hu).2.srt) hu (hy2.cell 3) hx2 (fun e => by have:=hFl y e; omega) (fun e => by have:=hFl x e; omega)).mono ?_
 rintro v w3 ⟨rfl,h5,h6⟩
 exact ⟨rfl,_,_,⟨_,_,_,_,_,h5⟩,fun i hi => .inl hi,fun i hi => .inl hi,fun i hi => hi,h6.mono fun i _ (e:i = rb c.user) => e ▸ (hM.inn _ _ (hM.us _ _ hu).2.2.1).1⟩
theorem renames_does {t x y z r N:Nat} {T:Stt} {F V:Nat → Prop} {ptr rb:Nm → Nat} {vb:Nm → Nm → Value} {Fs:Nm → Nat → Prop} {c:Chg} {A B:Option Addr} {ca cb:Nat} {u:Usr} {b:Bx} {vL:Value} {w:World} (h:SttM w t T F V r ptr rb vb Fs) (ok:T.Ok) (hVl:∀ i,V i → i < N) (hN:N ≤ w.heap.size) (hu:tLook T.us c.user = some u)
  (hy:Blk w y 25 (chV c A ca B cb)) (hx:Blk w x 116 #[.pointer (some ⟨ptr c.user,0,none⟩)]) (hz:Blk w z 111 #[str c.to,i64 b.val,i64 b.next,vL]) (hb:RB w (.agg #[str c.to,i64 b.val,i64 b.next,vL]) { b with name:=⟨c.to.toArray⟩ } V) (hyN:N ≤ y) (hxN:N ≤ x) (hzN:N ≤ z) :
  Does w (.func (.func 145) #[] #[.pointer (some ⟨x,0,none⟩),.pointer (some ⟨y,0,none⟩),.pointer (some ⟨z,0,none⟩)]) t (T.turn c.user u (tLay (tGone u.bx c.box) c.to { b with name:=⟨c.to.toArray⟩ })) F V:=by
 refine ⟨_,_,rfl,by kernel_rfl,fun S V' w2 k hS hG hV => ?_⟩
 have hFl:∀ i,F i → i < N:=fun i hi => hVl i (h.fv i hi)
 have hM:=h.step k hS hG hV
 have hy2:=hy.kp k fun e => by have:=hVl y (hS y e).1; omega
 have hx2:=hx.kp k fun e => by have:=hVl x (hS x e).1; omega
 have hz2:=hz.kp k fun e => by have:=hVl z (hS z e).1; omega
 refine (renames1_spec hM (fun s u hu => (ok.us s u hu).2.srt) hu (hy2.cell 3) (hy2.cell 4) hx2 hz2 (hb.step (k.mono fun i _ hi => (hS i hi).1) hG) (fun e => by have:=hFl y e; omega) (fun e => by have:=hFl x e; omega) (fun e => by have:=hFl z e; omega)).mono ?_
 rintro v w3 ⟨rfl,h5,h6⟩
 exact ⟨rfl,_,_,h5,fun i hi => .inl hi,fun i hi => .inl hi,fun i hi => hi,h6⟩
end Go.Proofs.YtellahclbhfdiaaGreatDoor
