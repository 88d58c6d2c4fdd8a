/-
  A store's plans walked: plans. By the session itself. slices.Clone of numbers; a new state; walked. By the session itself.
-/
import Derived.Test.YtellahclbhfdiaaGreatDoorZ29
import Derived.Test.YtellahclbhfdiaaGreatDoorZ22
namespace Go.Proofs.YtellahclbhfdiaaGreatDoor
set_option linter.unusedSimpArgs false
set_option linter.unusedVariables false
set_option maxRecDepth 100000
set_option maxHeartbeats 2000000
open Go.Vc Go.RowKit
theorem plans_spec (t:Nat) (T:Stt) (F V:Nat → Prop) (c:Chg) (v:Value) (w:World) (h:SttA w t T F V) (ok:T.Ok) (hVl:∀ i,V i → i < w.heap.size) (hc:RC w v c V) (hok:chgOk c = true) :
  Cal Tryz.prog 56 #[.pointer (some ⟨t,0,none⟩),v] w fun v w' => PlanR w' v t (plan T c) F V ∧ Nw w w':=by
 have hRC:=hc
 have hX:=chgOk_ok hok
 obtain ⟨A,ca,B,cb,rfl,hca,hcb,hrA,hoA,hrB,hoB⟩:=hc
 refine enter Tryz.mixed Tryz.func56 rfl (by kernel_rfl) ?_
 simp -dsimp [go_sem]
 obtain ⟨y,hy',hy,hz,hsz,n0⟩:=two_new w 25 100 (chV c A ca B cb) #[.nilFunc,i64 0,i64 0]
 obtain ⟨z,hz'⟩:∃ z,z = y + 1:=⟨_,rfl⟩
 rw [← hz'] at hz
 have hsz:((w.alloc (.cells (chV c A ca B cb) 25)).alloc (.cells #[.nilFunc,i64 0,i64 0] 100)).heap.size = z + 1:=by rw [hsz]; omega
 rw [← hy',← hz']
 generalize (w.alloc (.cells (chV c A ca B cb) 25)).alloc (.cells #[.nilFunc,i64 0,i64 0] 100) = wa at *
 have hzF:¬ F z:=fun e => by
  obtain ⟨_,_,_,_,_,hM⟩:=h
  have:=hVl _ (hM.fv _ e); omega
 have hzV:¬ V z:=fun e => by have:=hVl _ e; omega
 have hyc:∀ i,wa.cell? ⟨y,i,none⟩ = (chV c A ca B cb)[i]?:=fun i => hy.cell i
 have y0:=hyc 0
 have y1:=hyc 1
 have y2:=hyc 2
 have y3:=hyc 3
 have y4:=hyc 4
 have y5:=hyc 5
 have y6:=hyc 6
 have y7:=hyc 7
 have y8:=hyc 8
 have y9:=hyc 9
 by_cases hk1:c.kind = 1
 ·have hpl:plan T c = plAdd T c:=by unfold plan; rw [if_pos hk1]
  have hk1':(c.kind == 1) = true:=by simpa using hk1
  simp -dsimp [go_sem,y0,hk1',y1,y2,y3,y4,y5,y6,y7,y8,y9]
  have hV1:∀ i,(V i ∨ i = z) → i < wa.heap.size:=fun i hi => hi.elim (fun e => Nat.lt_of_lt_of_le (hVl i e) n0.size) fun e => by omega
  have hS1:SttA wa t T F (fun i => V i ∨ i = z):=by
   obtain ⟨r,ptr,rb,vb,Fs,hM⟩:=h
   exact ⟨r,ptr,rb,vb,Fs,hM.wide n0 (by omega) (by omega)⟩
  refine call (adds_spec t T F _ c _ wa hS1 ok hV1 (hRC.wide n0 (by omega))) ?_
  rintro v w1 ⟨hP,k1⟩
  have hzW:=(hz.nw k1)
  have nW:=(n0.nw k1)
  have z0c:=hzW.cell 0
  have z1c:=hzW.cell 1
  have z2c:=hzW.cell 2
  have z0f:=hzW.frozen 0
  have z1f:=hzW.frozen 1
  have z2f:=hzW.frozen 2
  obtain ⟨pf,pn,pe,rfl,hpf⟩:=PlanR.three hP
  rw [hpl]
  rcases hpf with rfl | ⟨fid,caps,rfl⟩
  ·simp -dsimp [go_sem,z0c,z1c,z2c,z0f,z1f,z2f]
   exact ⟨PlanR.put hP (set3 _ z _ _ _) hzF hzV hzW.lt,nW.at_ (set3 _ z _ _ _) fun k (e:k = z) => by omega⟩
  ·simp -dsimp [go_sem,z0c,z1c,z2c,z0f,z1f,z2f]
   exact ⟨PlanR.put hP (set3 _ z _ _ _) hzF hzV hzW.lt,nW.at_ (set3 _ z _ _ _) fun k (e:k = z) => by omega⟩
 ·have hk1':(c.kind == 1) = false:=by simpa using hk1
  obtain ⟨r,ptr,rb,vb,Fs,hM0⟩:=h
  have hM:=hM0.nw n0
  have t1:=hM.blk.cell 1
  simp -dsimp [go_sem,y0,hk1']
  have hlz:∀ wz,Nw wa wz → (Instr.lookup 117 (.map (some r)) (str c.user) false).run Tryz.prog wz = .ok ((Mu ptr T.us c.user).getD (.pointer none)) wz:=fun wz hk => lookup_mp KL hmu (z:=.pointer none) (w:=wz) rfl (hM.mp.kp hk fun h => h) c.user false
  have kdr:Nw wa wa.drew:=(Kp.refl _ _).drew
  have hlk:=hlz wa.drew kdr
  refine draw (.take 0 (.take 1 (.take 2 (.take 3 (.take 4 (.take 5 (.take 6 (.alt 7 (.alt 8 .done .stop) .stop)))))))) (by kernel_rfl) (fun wz => Nw wa wz) kdr ?_
  have kf:∀ cs,Nw wa (wa.alloc (.cells cs 116)).drew:=fun cs => ((Kp.refl _ wa).alloc _).drew
  cases hu:tLook T.us c.user with
  | none =>
   have hpl:plan T c = (7,0,T):=by unfold plan; rw [if_neg hk1,hu]
   rw [show Mu ptr T.us c.user = none by simp [Mu,hu]] at hlz hlk
   simp -dsimp [go_sem,y1,t1,hlk]
   refine ⟨fun wz hz => by simp [hz.cell_some t1 fun h => h],fun wz hz => by simp [hz.cell_some y1 fun h => h],fun wz hk => by simp [hlz wz hk],kf _,?_⟩
   refine call (refused_spec 7 _) ?_
   rintro v w1 ⟨rfl,k1⟩
   have n1:=Kp.nw (n0.nw (kf _)) k1
   have hz1:=Blk.nw (hz.nw (kf _)) k1
   have z0c:=hz1.cell 0
   have z1c:=hz1.cell 1
   have z2c:=hz1.cell 2
   have z0f:=hz1.frozen 0
   have z1f:=hz1.frozen 1
   have z2f:=hz1.frozen 2
   simp -dsimp [go_sem,z0c,z1c,z2c,z0f,z1f,z2f]
   rw [hpl]
   exact ⟨.inl ⟨by simp,rfl⟩,n1.at_ (set3 w1 z _ _ _) fun k (e:k = z) => by omega⟩
  | some u =>
   rw [show Mu ptr T.us c.user = some (.pointer (some ⟨ptr c.user,0,none⟩)) by simp [Mu,hu]] at hlz hlk
   have hUO:=(ok.us _ _ hu).2
   have ka:∀ cs,Nw wa (wa.alloc (.cells cs 116)):=fun cs => (Kp.refl _ wa).alloc _
   have hx0:=Blk.new wa 116 #[.pointer (some ⟨ptr c.user,0,none⟩)]
   have nab:=kf #[.pointer (some ⟨ptr c.user,0,none⟩)]
   have hxb:=hx0.nw ((Kp.refl (fun _ => False) _).drew)
   have y0b:=fun cs => (ka cs).cell_some y0 fun h => h
   simp -dsimp [go_sem,y1,t1,hlk,y0b]
   refine ⟨fun wz hz => by simp [hz.cell_some t1 fun h => h],fun wz hz => by simp [hz.cell_some y1 fun h => h],fun wz hk => by simp [hlz wz hk],kf _,kf _,?_⟩
   obtain ⟨x,hx'⟩:∃ x,x = wa.heap.size:=⟨_,rfl⟩
   have hxs:(wa.alloc (.cells #[.pointer (some ⟨ptr c.user,0,none⟩)] 116)).drew.heap.size = x + 1:=by simp [hx']
   rw [← hx'] at hxb ⊢
   generalize (wa.alloc (.cells #[.pointer (some ⟨ptr c.user,0,none⟩)] 116)).drew = wb at *
   have hyb:=hy.nw nab
   have hzb:=hz.nw nab
   have n1:=n0.nw nab
   have hMb:=hM0.nw n1
   have hW:=hM0.wide n1 (z:=z) (by omega) (by omega)
   have hVb:∀ i,(V i ∨ i = z) → i < wb.heap.size:=fun i hi => hi.elim (fun e => Nat.lt_of_lt_of_le (hVl i e) n1.size) fun e => by omega
   have hRCb:=hRC.wide n1 (z:=z) (by omega)
   have hyc:∀ i,wb.cell? ⟨y,i,none⟩ = (chV c A ca B cb)[i]?:=fun i => hyb.cell i
   clear y0 y1 y2 y3 y4 y5 y6 y7 y8 y9 hlk hlz hx0 y0b
   have y0:=hyc 0
   have y1:=hyc 1
   have y2:=hyc 2
   have y3:=hyc 3
   have y4:=hyc 4
   have y5:=hyc 5
   have y6:=hyc 6
   have y7:=hyc 7
   have y8:=hyc 8
   have y9:=hyc 9
   have x0:=hxb.cell 0
   by_cases hk2:c.kind = 2
   ·have hpl:plan T c = plCreate T c u:=by unfold plan; rw [if_neg hk1,hu]; simp only; rw [if_pos hk2]
    have hk2':(c.kind == 2) = true:=by simpa using hk2
    simp -dsimp [go_sem,y0,hk2',y1,y2,y3,y4,y5,y6,y7,y8,y9,x0]
    refine call (creates_spec c _ wb hW ok hVb hu hRCb) ?_
    rintro v w1 ⟨hP,k1⟩
    have hzW:=(hzb.nw k1)
    have nW:=(n1.nw k1)
    have z0c:=hzW.cell 0
    have z1c:=hzW.cell 1
    have z2c:=hzW.cell 2
    have z0f:=hzW.frozen 0
    have z1f:=hzW.frozen 1
    have z2f:=hzW.frozen 2
    obtain ⟨pf,pn,pe,rfl,hpf⟩:=PlanR.three hP
    rw [hpl]
    rcases hpf with rfl | ⟨fid,caps,rfl⟩
    ·simp -dsimp [go_sem,z0c,z1c,z2c,z0f,z1f,z2f]
     exact ⟨PlanR.put hP (set3 _ z _ _ _) hzF hzV hzW.lt,nW.at_ (set3 _ z _ _ _) fun k (e:k = z) => by omega⟩
    ·simp -dsimp [go_sem,z0c,z1c,z2c,z0f,z1f,z2f]
     exact ⟨PlanR.put hP (set3 _ z _ _ _) hzF hzV hzW.lt,nW.at_ (set3 _ z _ _ _) fun k (e:k = z) => by omega⟩
   ·have hk2':(c.kind == 2) = false:=by simpa using hk2
    simp -dsimp [go_sem,hk2']
    obtain ⟨hU,u2,u3,u4⟩:=hMb.us _ _ hu
    have p1:=hU.blk.cell 1
    have hlz:∀ wz,Nw wb wz → (Instr.lookup 156 (.map (some (rb c.user))) (str c.box) true).run Tryz.prog wz = .ok (.tuple #[(Mb (vb c.user) u.bx c.box).getD (.agg #[.string ⟨#[]⟩,i64 0,i64 0,.slice none 0 0]),.bool (Mb (vb c.user) u.bx c.box).isSome]) wz:=fun wz hk => lookup_mp KL hmb zeroBox (hU.mp.kp hk fun h => h) c.box true
    have kdr:Nw wb wb.drew:=(Kp.refl _ _).drew
    have hlk:=hlz wb.drew kdr
    refine draw (.take 0 (.take 1 (.take 2 (.take 3 (.take 4 (.take 5 (.take 6 (.take 7 (.take 8 (.take 9 (.alt 10 (.alt 11 (.take 12 .done) .stop) .stop)))))))))))  (by kernel_rfl) (fun wz => Nw wb wz) kdr ?_
    have kf:∀ cs,Nw wb (wb.alloc (.cells cs 111)).drew:=fun cs => ((Kp.refl _ wb).alloc _).drew
    have ka:∀ cs,Nw wb (wb.alloc (.cells cs 111)):=fun cs => (Kp.refl _ wb).alloc _
    cases hb:tLook u.bx c.box with
    | none =>
     have hpl:plan T c = (7,0,T):=by unfold plan; rw [if_neg hk1,hu]; simp only; rw [if_neg hk2,hb]
     rw [show Mb (vb c.user) u.bx c.box = none by simp [Mb,hb]] at hlz hlk
     simp -dsimp [go_sem,x0,y3,p1,hlk]
     refine ⟨fun wz hz => by simp [hz.cell_some x0 fun h => h],fun wz hz => by simp [hz.cell_some p1 fun h => h],fun wz hz => by simp [hz.cell_some y3 fun h => h],fun wz hk => by simp [hlz wz hk],kf _,?_⟩
     refine call (refused_spec 7 _) ?_
     rintro v w1 ⟨rfl,k1⟩
     have n1:=Kp.nw (n1.nw (kf _)) k1
     have hz1:=Blk.nw (hzb.nw (kf _)) k1
     have z0c:=hz1.cell 0
     have z1c:=hz1.cell 1
     have z2c:=hz1.cell 2
     have z0f:=hz1.frozen 0
     have z1f:=hz1.frozen 1
     have z2f:=hz1.frozen 2
     simp -dsimp [go_sem,z0c,z1c,z2c,z0f,z1f,z2f]
     rw [hpl]
     exact ⟨.inl ⟨by simp,rfl⟩,n1.at_ (set3 w1 z _ _ _) fun k (e:k = z) => by omega⟩
    | some b =>
     have hpl:plan T c = plBox T c u b:=by unfold plan; rw [if_neg hk1,hu]; simp only; rw [if_neg hk2,hb]
     have hB:=hUO.bx _ _ hb
     have hRw:=(hM0.us _ _ hu).1.bx _ _ hb
     obtain ⟨X,xc,hv⟩:=hRw.open_
     rw [hv] at hRw
     rw [show Mb (vb c.user) u.bx c.box = some (.agg #[.string b.name,i64 b.val,i64 b.next,.slice X b.L.length xc]) by simp [Mb,hb,hv]] at hlz hlk
     have hg0:=Blk.new wb 111 #[.string b.name,i64 b.val,i64 b.next,.slice X b.L.length xc]
     have nbc:=kf #[.string b.name,i64 b.val,i64 b.next,.slice X b.L.length xc]
     have hgc:=hg0.nw ((Kp.refl (fun _ => False) _).drew)
     have y0b:=fun cs => (ka cs).cell_some y0 fun h => h
     simp -dsimp [go_sem,x0,y3,p1,hlk,y0b]
     refine ⟨fun wz hz => by simp [hz.cell_some x0 fun h => h],fun wz hz => by simp [hz.cell_some p1 fun h => h],fun wz hz => by simp [hz.cell_some y3 fun h => h],fun wz hk => by simp [hlz wz hk],kf _,kf _,?_⟩
     obtain ⟨g,hg'⟩:∃ g,g = wb.heap.size:=⟨_,rfl⟩
     rw [← hg'] at hgc ⊢
     generalize (wb.alloc (.cells #[.string b.name,i64 b.val,i64 b.next,.slice X b.L.length xc] 111)).drew = wc at *
     have hyb:=hyb.nw nbc
     have hzb:=hzb.nw nbc
     have hxb:=hxb.nw nbc
     have n1:=n1.nw nbc
     have hMb:=hM0.nw n1
     have hW:=hM0.wide n1 (z:=z) (by omega) hzb.lt
     have hVb:∀ i,(V i ∨ i = z) → i < wc.heap.size:=fun i hi => hi.elim (fun e => Nat.lt_of_lt_of_le (hVl i e) n1.size) fun e => e ▸ hzb.lt
     have hRCb:=hRC.wide n1 (z:=z) (by omega)
     have hRb:RB wc (.agg #[.string b.name,i64 b.val,i64 b.next,.slice X b.L.length xc]) b (fun i => V i ∨ i = z):=(hRw.ofl (T:=fun i => V i ∨ i = z) fun i hi => hi.imp id fun e => by omega).nw n1
     have hyc:∀ i,wc.cell? ⟨y,i,none⟩ = (chV c A ca B cb)[i]?:=fun i => hyb.cell i
     clear y0 y1 y2 y3 y4 y5 y6 y7 y8 y9 hlk hlz hg0 y0b p1 x0
     have y0:=hyc 0
     have y1:=hyc 1
     have y2:=hyc 2
     have y3:=hyc 3
     have y4:=hyc 4
     have y5:=hyc 5
     have y6:=hyc 6
     have y7:=hyc 7
     have y8:=hyc 8
     have y9:=hyc 9
     have x0:=hxb.cell 0
     have g0:=hgc.cell 0
     have g1:=hgc.cell 1
     have g2:=hgc.cell 2
     have g3:=hgc.cell 3
     by_cases hk3:c.kind = 3
     ·have hk3':(c.kind == 3) = true:=by simpa using hk3
      have hie:=beq_in c.box
      by_cases hin:c.box = inboxN
      ·have hpl:plan T c = (11,0,T):=by rw [hpl]; unfold plBox; rw [if_pos hk3,if_pos hin]
       rw [decide_eq_true hin] at hie
       simp -dsimp [go_sem,hk3',y3,hie]
       refine call (refused_spec 11 _) ?_
       rintro v w1 ⟨rfl,k1⟩
       have n1:=Kp.nw n1 k1
       have hz1:=Blk.nw hzb k1
       have z0c:=hz1.cell 0
       have z1c:=hz1.cell 1
       have z2c:=hz1.cell 2
       have z0f:=hz1.frozen 0
       have z1f:=hz1.frozen 1
       have z2f:=hz1.frozen 2
       simp -dsimp [go_sem,z0c,z1c,z2c,z0f,z1f,z2f]
       rw [hpl]
       exact ⟨.inl ⟨by simp,rfl⟩,n1.at_ (set3 w1 z _ _ _) fun k (e:k = z) => by omega⟩
      ·have hpl:plan T c = (0,0,T.turn c.user u (tGone u.bx c.box)):=by rw [hpl]; unfold plBox; rw [if_pos hk3,if_neg hin]
       rw [decide_eq_false hin] at hie
       have z0c:=hzb.cell 0
       have z1c:=hzb.cell 1
       have z2c:=hzb.cell 2
       have z0f:=hzb.frozen 0
       have z1f:=hzb.frozen 1
       have z2f:=hzb.frozen 2
       simp -dsimp [go_sem,hk3',y3,hie]
       simp [go_sem,z0c,z1c,z2c,z0f,z1f,z2f]
       have nf:=fun a b c => n1.at_ (set3 wc z a b c) fun k (e:k = z) => by omega
       rw [hpl]
       exact ⟨.inr ⟨rfl,_,rfl,gone_does (hM0.nw (nf _ _ _)) ok hVl (nf _ _ _).size hu (hyb.kp (set3 wc z _ _ _) fun (e:y = z) => by omega) (hxb.kp (set3 wc z _ _ _) fun (e:x = z) => by omega) (by omega) (by omega)⟩,nf _ _ _⟩
     ·have hk3':(c.kind == 3) = false:=by simpa using hk3
      by_cases hk4:c.kind = 4
      ·have hk4':(c.kind == 4) = true:=by simpa using hk4
       have hpl:plan T c = plRename T c u b:=by rw [hpl]; unfold plBox; rw [if_neg hk3,if_pos hk4]
       simp -dsimp [go_sem,hk3',hk4',y0,y1,y2,y3,y4,y5,y6,y7,y8,y9,x0,g0,g1,g2,g3]
       refine call (renames_spec c _ _ wc hW ok hVb hu hRCb hRb) ?_
       rintro v w1 ⟨hP,k1⟩
       have hzW:=(hzb.nw k1)
       have nW:=(n1.nw k1)
       have z0c:=hzW.cell 0
       have z1c:=hzW.cell 1
       have z2c:=hzW.cell 2
       have z0f:=hzW.frozen 0
       have z1f:=hzW.frozen 1
       have z2f:=hzW.frozen 2
       obtain ⟨pf,pn,pe,rfl,hpf⟩:=PlanR.three hP
       rw [hpl]
       rcases hpf with rfl | ⟨fid,caps,rfl⟩
       ·simp -dsimp [go_sem,z0c,z1c,z2c,z0f,z1f,z2f]
        exact ⟨PlanR.put hP (set3 _ z _ _ _) hzF hzV hzW.lt,nW.at_ (set3 _ z _ _ _) fun k (e:k = z) => by omega⟩
       ·simp -dsimp [go_sem,z0c,z1c,z2c,z0f,z1f,z2f]
        exact ⟨PlanR.put hP (set3 _ z _ _ _) hzF hzV hzW.lt,nW.at_ (set3 _ z _ _ _) fun k (e:k = z) => by omega⟩
      ·have hk4':(c.kind == 4) = false:=by simpa using hk4
       have hI:=IsB.of hB.2
       have hll:b.L.length ≤ 1000000:=by have:=hI.len; omega
       have hbl:∀ m ∈ b.L,m.body.length ≤ 1000000000:=fun m hm => by have:=(hI.all m hm).2.2.2.2; omega
       by_cases hk5:c.kind = 5
       ·have hk5':(c.kind == 5) = true:=by simpa using hk5
        have hpl:plan T c = plKeep T c.user u c.box (addB b c.flags c.date c.body).1 (addB b c.flags c.date c.body).2.1 (addB b c.flags c.date c.body).2.2:=by rw [hpl]; unfold plBox; rw [if_neg hk3,if_neg hk4,if_pos hk5]
        simp -dsimp [go_sem,hk3',hk4',hk5',y7,y8,y9,g0,g1,g2,g3]
        refine call (add_spec _ b _ c.flags c.date c.body B cb wc hRb hll hbl (hrB.nw n1) (by have:=hI.next; omega)) ?_
        rintro v w2 ⟨⟨bv,rfl,hO⟩,k2⟩
        have hname:=addB_name b c.flags c.date c.body
        obtain ⟨R,hR⟩:∃ R,R = addB b c.flags c.date c.body:=⟨_,rfl⟩
        rw [← hR] at hO hname hpl ⊢
        obtain ⟨R1,R2,R3⟩:=R
        simp only at hO hname hpl ⊢
        obtain ⟨A7,c7,rfl⟩:=hO.open_
        have n2:=n1.nw k2
        have ha2:∀ cs,Nw w2 (World.alloc w2 (.cells cs 111)):=fun cs => (Kp.refl _ w2).alloc _
        have x2:=(hxb.nw k2).cell 0
        have x2b:=fun cs => (ha2 cs).cell_some x2 fun h => h
        simp -dsimp [go_sem,x2,x2b]
        have n3:=Kp.nw n2 (ha2 #[.string (Bx.name R1),i64 (Bx.val R1),i64 (Bx.next R1),(.slice A7 R1.L.length c7)])
        have hz3:=(hzb.nw k2).nw (ha2 #[.string (Bx.name R1),i64 (Bx.val R1),i64 (Bx.next R1),(.slice A7 R1.L.length c7)])
        have hR3:=((hO.rb.ofl (T:=fun i => V i ∨ i = z) fun i hi => .inl (hVb i hi))).nw (ha2 #[.string (Bx.name R1),i64 (Bx.val R1),i64 (Bx.next R1),(.slice A7 R1.L.length c7)])
        refine call (keeps_spec _ _ (hM0.wide n3 (z:=z) (by omega) hz3.lt) (fun i hi => hi.elim (fun e => Nat.lt_of_lt_of_le (hVl i e) n3.size) fun e => e ▸ hz3.lt) hu (hname.1.trans hB.1) hR3 R2 R3) ?_
        rintro v w4 ⟨hP,k4⟩
        have hzW:=(hz3.nw k4)
        have nW:=(n3.nw k4)
        have z0c:=hzW.cell 0
        have z1c:=hzW.cell 1
        have z2c:=hzW.cell 2
        have z0f:=hzW.frozen 0
        have z1f:=hzW.frozen 1
        have z2f:=hzW.frozen 2
        obtain ⟨pf,pn,pe,rfl,hpf⟩:=PlanR.three hP
        rw [hpl]
        rcases hpf with rfl | ⟨fid,caps,rfl⟩
        ·simp -dsimp [go_sem,z0c,z1c,z2c,z0f,z1f,z2f]
         exact ⟨PlanR.put hP (set3 _ z _ _ _) hzF hzV hzW.lt,nW.at_ (set3 _ z _ _ _) fun k (e:k = z) => by omega⟩
        ·simp -dsimp [go_sem,z0c,z1c,z2c,z0f,z1f,z2f]
         exact ⟨PlanR.put hP (set3 _ z _ _ _) hzF hzV hzW.lt,nW.at_ (set3 _ z _ _ _) fun k (e:k = z) => by omega⟩
       ·have hk5':(c.kind == 5) = false:=by simpa using hk5
        by_cases hk6:c.kind = 6
        ·have hk6':(c.kind == 6) = true:=by simpa using hk6
         have hpl:plan T c = plKeep T c.user u c.box { b with L:=b.L.map (mk1 c.uids c.mode c.flags) } (markN c.uids c.mode c.flags b.L) 0:=by rw [hpl]; unfold plBox; rw [if_neg hk3,if_neg hk4,if_neg hk5,if_pos hk6]
         simp -dsimp [go_sem,hk3',hk4',hk5',hk6',y5,y6,y7,g0,g1,g2,g3]
         refine call (mark_spec _ b _ c.uids c.mode c.flags A ca wc hRb hll hbl (hrA.nw n1) (by have:=hX.uids.2; omega)) ?_
         rintro v w2 ⟨⟨bv,rfl,hO⟩,k2⟩
         have hnm:(⟨b.name,b.val,b.next,b.L.map (mk1 c.uids c.mode c.flags)⟩:Bx).name = ⟨c.box.toArray⟩:=hB.1
         obtain ⟨R1,hR1⟩:∃ R1:Bx,R1 = ⟨b.name,b.val,b.next,b.L.map (mk1 c.uids c.mode c.flags)⟩:=⟨_,rfl⟩
         rw [← hR1] at hO hpl hnm
         obtain ⟨A7,c7,rfl⟩:=hO.open_
         have n2:=n1.nw k2
         have ha2:∀ cs,Nw w2 (World.alloc w2 (.cells cs 111)):=fun cs => (Kp.refl _ w2).alloc _
         have x2:=(hxb.nw k2).cell 0
         have x2b:=fun cs => (ha2 cs).cell_some x2 fun h => h
         simp -dsimp [go_sem,x2,x2b]
         have n3:=Kp.nw n2 (ha2 #[.string (Bx.name R1),i64 (Bx.val R1),i64 (Bx.next R1),(.slice A7 R1.L.length c7)])
         have hz3:=(hzb.nw k2).nw (ha2 #[.string (Bx.name R1),i64 (Bx.val R1),i64 (Bx.next R1),(.slice A7 R1.L.length c7)])
         have hR3:=((hO.rb.ofl (T:=fun i => V i ∨ i = z) fun i hi => .inl (hVb i hi))).nw (ha2 #[.string (Bx.name R1),i64 (Bx.val R1),i64 (Bx.next R1),(.slice A7 R1.L.length c7)])
         refine call (keeps_spec _ _ (hM0.wide n3 (z:=z) (by omega) hz3.lt) (fun i hi => hi.elim (fun e => Nat.lt_of_lt_of_le (hVl i e) n3.size) fun e => e ▸ hz3.lt) hu hnm hR3 (markN c.uids c.mode c.flags b.L:Int) 0) ?_
         rintro v w4 ⟨hP,k4⟩
         have hzW:=(hz3.nw k4)
         have nW:=(n3.nw k4)
         have z0c:=hzW.cell 0
         have z1c:=hzW.cell 1
         have z2c:=hzW.cell 2
         have z0f:=hzW.frozen 0
         have z1f:=hzW.frozen 1
         have z2f:=hzW.frozen 2
         obtain ⟨pf,pn,pe,rfl,hpf⟩:=PlanR.three hP
         rw [hpl]
         rcases hpf with rfl | ⟨fid,caps,rfl⟩
         ·simp -dsimp [go_sem,z0c,z1c,z2c,z0f,z1f,z2f]
          exact ⟨PlanR.put hP (set3 _ z _ _ _) hzF hzV hzW.lt,nW.at_ (set3 _ z _ _ _) fun k (e:k = z) => by omega⟩
         ·simp -dsimp [go_sem,z0c,z1c,z2c,z0f,z1f,z2f]
          exact ⟨PlanR.put hP (set3 _ z _ _ _) hzF hzV hzW.lt,nW.at_ (set3 _ z _ _ _) fun k (e:k = z) => by omega⟩
        ·have hk6':(c.kind == 6) = false:=by simpa using hk6
         by_cases hk7:c.kind = 7
         ·have hk7':(c.kind == 7) = true:=by simpa using hk7
          have hpl:plan T c = plKeep T c.user u c.box { b with L:=stayB c.uids b.L } (goneB c.uids b.L).length 0:=by rw [hpl]; unfold plBox; rw [if_neg hk3,if_neg hk4,if_neg hk5,if_neg hk6,if_pos hk7]
          simp -dsimp [go_sem,hk3',hk4',hk5',hk6',hk7',y5,g0,g1,g2,g3]
          refine call (expunge_spec _ b _ c.uids A ca wc hRb hll hbl (hrA.nw n1) (by have:=hX.uids.2; omega)) ?_
          rintro v w2 ⟨⟨bv,A8,n8,c8,rfl,hn8,hgc8,hO,hr8,ho8⟩,k2⟩
          have hnm:(⟨b.name,b.val,b.next,stayB c.uids b.L⟩:Bx).name = ⟨c.box.toArray⟩:=hB.1
          have hn8:n8 = (goneB c.uids b.L).length:=by rw [hn8]; simp [srtI]
          subst hn8
          obtain ⟨R1,hR1⟩:∃ R1:Bx,R1 = ⟨b.name,b.val,b.next,stayB c.uids b.L⟩:=⟨_,rfl⟩
          rw [← hR1] at hO hpl hnm
          obtain ⟨A7,c7,rfl⟩:=hO.open_
          have n2:=n1.nw k2
          have ha2:∀ cs,Nw w2 (World.alloc w2 (.cells cs 111)):=fun cs => (Kp.refl _ w2).alloc _
          have x2:=(hxb.nw k2).cell 0
          have x2b:=fun cs => (ha2 cs).cell_some x2 fun h => h
          simp -dsimp [go_sem,x2,x2b]
          have n3:=Kp.nw n2 (ha2 #[.string (Bx.name R1),i64 (Bx.val R1),i64 (Bx.next R1),(.slice A7 R1.L.length c7)])
          have hz3:=(hzb.nw k2).nw (ha2 #[.string (Bx.name R1),i64 (Bx.val R1),i64 (Bx.next R1),(.slice A7 R1.L.length c7)])
          have hR3:=((hO.rb.ofl (T:=fun i => V i ∨ i = z) fun i hi => .inl (hVb i hi))).nw (ha2 #[.string (Bx.name R1),i64 (Bx.val R1),i64 (Bx.next R1),(.slice A7 R1.L.length c7)])
          refine call (keeps_spec _ _ (hM0.wide n3 (z:=z) (by omega) hz3.lt) (fun i hi => hi.elim (fun e => Nat.lt_of_lt_of_le (hVl i e) n3.size) fun e => e ▸ hz3.lt) hu hnm hR3 ((goneB c.uids b.L).length:Int) 0) ?_
          rintro v w4 ⟨hP,k4⟩
          have hzW:=(hz3.nw k4)
          have nW:=(n3.nw k4)
          have z0c:=hzW.cell 0
          have z1c:=hzW.cell 1
          have z2c:=hzW.cell 2
          have z0f:=hzW.frozen 0
          have z1f:=hzW.frozen 1
          have z2f:=hzW.frozen 2
          obtain ⟨pf,pn,pe,rfl,hpf⟩:=PlanR.three hP
          rw [hpl]
          rcases hpf with rfl | ⟨fid,caps,rfl⟩
          ·simp -dsimp [go_sem,z0c,z1c,z2c,z0f,z1f,z2f]
           exact ⟨PlanR.put hP (set3 _ z _ _ _) hzF hzV hzW.lt,nW.at_ (set3 _ z _ _ _) fun k (e:k = z) => by omega⟩
          ·simp -dsimp [go_sem,z0c,z1c,z2c,z0f,z1f,z2f]
           exact ⟨PlanR.put hP (set3 _ z _ _ _) hzF hzV hzW.lt,nW.at_ (set3 _ z _ _ _) fun k (e:k = z) => by omega⟩
         ·have hk7':(c.kind == 7) = false:=by simpa using hk7
          have hpl:plan T c = plCopy T c u b:=by rw [hpl]; unfold plBox; rw [if_neg hk3,if_neg hk4,if_neg hk5,if_neg hk6,if_neg hk7]
          simp -dsimp [go_sem,hk3',hk4',hk5',hk6',hk7',y0,y1,y2,y3,y4,y5,y6,y7,y8,y9,x0,g0,g1,g2,g3]
          refine call (copies_spec c _ _ wc hW ok hVb hu hRCb hX.uids.2 hRb hB.2) ?_
          rintro v w1 ⟨hP,k1⟩
          have hzW:=(hzb.nw k1)
          have nW:=(n1.nw k1)
          have z0c:=hzW.cell 0
          have z1c:=hzW.cell 1
          have z2c:=hzW.cell 2
          have z0f:=hzW.frozen 0
          have z1f:=hzW.frozen 1
          have z2f:=hzW.frozen 2
          obtain ⟨pf,pn,pe,rfl,hpf⟩:=PlanR.three hP
          rw [hpl]
          rcases hpf with rfl | ⟨fid,caps,rfl⟩
          ·simp -dsimp [go_sem,z0c,z1c,z2c,z0f,z1f,z2f]
           exact ⟨PlanR.put hP (set3 _ z _ _ _) hzF hzV hzW.lt,nW.at_ (set3 _ z _ _ _) fun k (e:k = z) => by omega⟩
          ·simp -dsimp [go_sem,z0c,z1c,z2c,z0f,z1f,z2f]
           exact ⟨PlanR.put hP (set3 _ z _ _ _) hzF hzV hzW.lt,nW.at_ (set3 _ z _ _ _) fun k (e:k = z) => by omega⟩
set_option maxHeartbeats 1000000
theorem one_i64 (l:List Int):∀ u ∈ l.map i64,u.oneCell' = true:=fun u hu => by
 obtain ⟨x,_,rfl⟩:=List.mem_map.1 hu
 rfl
theorem iclone_spec (A:Option Addr) (c:Nat) (l:List Int) (w:World) (hr:Rd w A (l.map i64)) (hl:l.length ≤ 1000000000) :
  Cal Tryz.prog 54 #[.slice A l.length c] w fun v w' => Gs w' 3 1 v l.length (l.map i64) w.heap.size ∧ Nw w w':=by
 refine enter Tryz.mixed Tryz.func54 rfl (by kernel_rfl) ?_
 simp -dsimp [go_sem]
 refine cond_b (fun h => ?_) (fun h => ?_)
 ·obtain rfl:A = none:=by simpa using h
  have hn:l = []:=by
   cases l with
   | nil => rfl
   | cons b t => obtain ⟨_,_,e,_⟩:=hr 0 (i64 b) rfl; cases e
  subst hn
  simp -dsimp [go_sem]
  exact ⟨⟨none,0,rfl,Ow.nil _ _ _,by simp⟩,Kp.refl _ _⟩
 ·simp -dsimp [go_sem]
  refine app Tryz.Sint (Ow.made w 3 1 0 #[] rfl (by simp [maxLen])) (hr.nw ((Kp.refl _ w).alloc _)) (m:=l.length) (by simp) (one_i64 l) (by omega) (by omega) ?_
  intro A' c' w' ho hk hA
  simp -dsimp [go_sem]
  refine ⟨⟨A',c',rfl,by simpa using ho,?_⟩,?_⟩
  ·rintro a rfl
   rcases hA with e | ⟨e,_⟩ <;> cases e <;> simp
  ·exact ((Kp.refl _ w).alloc _).trans hk (fun i hi h => by simp [blk] at h; omega)
/-- A state of no users, in two new blocks. -/
theorem empty_spec (w:World):Cal Tryz.prog 108 #[] w fun v w' => v = .pointer (some ⟨w.heap.size + 1,0,none⟩) ∧ Nw w w' ∧ w'.heap.size = w.heap.size + 2 ∧ SttA w' (w.heap.size + 1) Stt.zero (fun i => i = w.heap.size ∨ i = w.heap.size + 1) (fun i => i = w.heap.size ∨ i = w.heap.size + 1):=by
 have hmk:=fun (t:TypeId) (w:World) => run_makeMap (P:=Tryz.prog) t w
 refine enter Tryz.mixed Tryz.func108 rfl (by kernel_rfl) ?_
 simp -dsimp [go_sem,hmk]
 simp [go_sem]
 have k1:Nw w (w.alloc (.map #[] 0)):=(Kp.refl _ _).alloc _
 have s1:(w.alloc (.map #[] 0)).heap.size = w.heap.size + 1:=by simp
 have hm:Mp (w.alloc (.map #[] 0)) w.heap.size (fun l:Nm => str l) (fun _ => none):=Mp.new w
 generalize w.alloc (.map #[] 0) = w1 at *
 have k2:Nw w1 (w1.alloc (.cells #[i64 1,.map (some w.heap.size)] 119)):=(Kp.refl _ _).alloc _
 have hb:=Blk.new w1 119 #[i64 1,.map (some w.heap.size)]
 rw [s1] at hb
 refine ⟨k1.nw k2,w.heap.size,fun _ => 0,fun _ => 0,fun _ _ => .bool false,fun _ _ => False,hb,hm.kp k2 (fun h => h),fun s u h => (by cases h),fun _ _ _ _ h => h.elim,fun _ _ h => h.elim,by omega,.inr rfl,.inl rfl,fun i hi => ?_,fun i hi => hi⟩
 simp [s1]
 omega
end Go.Proofs.YtellahclbhfdiaaGreatDoor
