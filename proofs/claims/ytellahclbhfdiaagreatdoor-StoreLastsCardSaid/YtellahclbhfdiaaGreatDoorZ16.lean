/-
  each, Sync, Remove of a disk walked. By the session itself. Read, Fuse, Crash of a disk walked. By the session itself. Truncate, Rename of a disk walked. By the session itself.
-/
import Derived.Test.YtellahclbhfdiaaGreatDoorZ15
namespace Go.Proofs.YtellahclbhfdiaaGreatDoor
set_option linter.unusedSimpArgs false
set_option linter.unusedVariables false
set_option maxRecDepth 100000
set_option maxHeartbeats 1000000
open Go.Vc Go.RowKit
def dStep (f:Dsk → Nm → Fil → Dsk) (D:Dsk) (s:Nm):Dsk × Nat :=
 if mayL D [s] ≠ 0 then (D,mayL D [s]) else match tLook D.fs s with
  | none => (D,7)
  | some x => ((f D s x).done,0)
def dEach (f:Dsk → Nm → Fil → Dsk):Dsk → List Nm → Dsk × Nat
 | D,[] => (D,0)
 | D,s :: r => if (dStep f D s).2 ≠ 0 then dStep f D s else dEach f (dStep f D s).1 r
def fSync (D:Dsk) (s:Nm) (x:Fil):Dsk:={ D with fs:=tLay D.fs s ⟨x.b,x.b.length⟩ }
def fRemove (D:Dsk) (s:Nm) (_:Fil):Dsk:={ D with fs:=tGone D.fs s }
theorem Gr.tr {F F' F'':Nat → Prop} {a b c:World} (h:Gr F F' a b) (k:Gr F' F'' b c) (h1:a.heap.size ≤ b.heap.size) (h2:b.heap.size ≤ c.heap.size):Gr F F'' a c:=h.trans k h1 h2
theorem mayL_ok {D:Dsk} {ns:List Nm} (h:mayL D ns = 0):D.left ≠ some 0:=fun e => by
 unfold mayL at h
 rw [if_pos e] at h
 cases h
/-- What a thing done with a file comes to. -/
def DoesF (k:FuncId) (bd:Array Value) (f:Dsk → Nm → Fil → Dsk) (g:Nat) (Q:(Nat → Prop) → World → Prop):Prop :=
 ∀ (D:Dsk) (s:Nm) (x:Fil) (F:Nat → Prop) (w:World) (r:Nat) (z:Int) (ptr:Nm → Nat) (Fs:Nm → Nat → Prop),D.Ok → DkM w g D F r z ptr Fs → Q F w → tLook D.fs s = some x →
  Cal Tryz.prog k (#[str s,.pointer (some ⟨ptr s,0,none⟩)] ++ bd) w fun v w' => (f D s x).left = D.left ∧ ∃ F',Dk w' g (f D s x) F' ∧ Gr F F' w w' ∧ Kp F w w'
theorem each_spec (k:FuncId) (hgo:isGo Tryz.prog k = true) (bd:Array Value) (f:Dsk → Nm → Fil → Dsk) (Q:(Nat → Prop) → World → Prop) (g:Nat) (hQ:∀ F F' w w',Q F w → Kp F w w' → Gr F F' w w' → Q F' w') (hcl:DoesF k bd f g Q)
  (ns:List Nm) (A:Option Addr) (c:Nat) (D:Dsk) (F:Nat → Prop) (w:World) (h:Dk w g D F) (hq:Q F w) (hr:Rd w A (ns.map fun s => str s)) (hA:Ofl A (ns.map fun s => str s) F) (hl:ns.length ≤ 140737488355328) (hs:∀ s ∈ ns,s.length ≤ 9223372036854775807) :
  Cal Tryz.prog 159 #[.pointer (some ⟨g,0,none⟩),.slice A ns.length c,.func (.func k) #[] bd] w fun v w' => v = i64 (dEach f D ns).2 ∧ ∃ F',Dk w' g (dEach f D ns).1 F' ∧ Gr F F' w w' ∧ Kp F w w':=by
 have K:KeyS Tryz.prog 9 (fun s:Nm => str s):=keyL (by kernel_rfl)
 have hmt:Tryz.prog.underlying 129 = some (.map 9 135):=by kernel_rfl
 have hcv:=fun (args:Array Value) (w:World) (K:Value → World → Prop) (j:Stop K) => callV_func hgo #[] bd args w K j
 refine enter Tryz.mixed Tryz.func159 rfl (by kernel_rfl) ?_
 simp -dsimp [go_sem]
 refine loop [6,8,9,10,15,16,17,18,19,20,21,22,23,24,25,26,27,28,29,30,31,32,33,34,35,36,37,38,39,40] (by kernel_rfl)
  (fun s w' => Box1 (fun a w' => ∃ (i:Nat) (Di:Dsk) (Fi:Nat → Prop),i ≤ ns.length ∧ a = i64 i ∧ dEach f D ns = dEach f Di (ns.drop i) ∧ Dk w' g Di Fi ∧ Q Fi w' ∧ Gr F Fi w w' ∧ Kp F w w') (s 15) w')
  (fun s _ => ns.length - (intOf (s 15)).toNat) ⟨0,D,F,Nat.zero_le _,rfl,rfl,h,hq,Gr.refl _ _,Kp.refl _ _⟩ ?_
 rintro s0 w1 ⟨i,Di,Fi,hi,s15,hE,hD,hQi,hG,hK⟩
 simp -dsimp [go_sem,s15]
 refine cond_d (fun hlt => ?_) (fun hlt => ?_)
 ·have hlt:i < ns.length:=by omega
  obtain ⟨b,o,rfl,hc⟩:=(hr.kp hK hA) i (str ns[i]) (by simp [hlt])
  have hsl:=hs ns[i] (List.getElem_mem hlt)
  rw [List.drop_eq_getElem_cons hlt] at hE
  obtain ⟨s,hs'⟩:∃ s,s = ns[i]:=⟨_,rfl⟩
  rw [← hs'] at hc hE hsl
  simp -dsimp [go_sem,s15,hlt,hc]
  have ka:Nw w1 (w1.alloc (.cells #[str s] 9)):=(Kp.refl _ _).alloc _
  refine call (may_spec [s] (some ⟨w1.heap.size,0,none⟩) 1 g Di Fi _ (hD.nw ka) (Rd.fresh rfl rfl) (by simp) (by simpa using hsl)) ?_
  rintro v w2 ⟨rfl,rfl⟩
  have hst:dStep f Di s = if mayL Di [s] ≠ 0 then (Di,mayL Di [s]) else match tLook Di.fs s with
    | none => (Di,7)
    | some x => ((f Di s x).done,0):=rfl
  have hmz:=@mayL_ok Di [s]
  obtain ⟨e,he⟩:∃ e,e = mayL Di [s]:=⟨_,rfl⟩
  rw [← he] at hst hmz ⊢
  have hKa:Kp F w (w1.alloc (.cells #[str s] 9)):=Kp.nw hK ka
  have hGa:Gr F Fi w (w1.alloc (.cells #[str s] 9)):=Gr.wide hG (Nat.le_refl _) ka.size
  by_cases h0:e = 0
  ·subst h0
   have hmz:=hmz rfl
   rw [if_neg (fun h => h rfl)] at hst
   obtain ⟨ok,r,z,ptr,Fs,hM⟩:=id (hD.nw ka)
   have g1:=hM.blk.cell 1
   have hlk:=lookup_mp K hmt (z:=.pointer none) (w:=w1.alloc (.cells #[str s] 9)) rfl hM.mp s false
   cases hx:tLook Di.fs s with
   | none =>
    have hm1:Mf ptr Di.fs s = none:=by simp [Mf,hx]
    rw [hm1] at hlk
    rw [hx] at hst
    simp -dsimp [go_sem,g1,hlk]
    rw [hE]
    simp only [dEach,hst]
    exact ⟨rfl,Fi,hD.nw ka,hGa,hKa⟩
   | some x =>
    have hm1:Mf ptr Di.fs s = some (.pointer (some ⟨ptr s,0,none⟩)):=by simp [Mf,hx]
    rw [hm1] at hlk
    rw [hx] at hst
    have hQa:=hQ Fi Fi _ _ hQi (ka.kp Fi) fun k h => .inl h
    simp -dsimp [go_sem,g1,hlk,hcv]
    refine call (hcl Di s x Fi _ r z ptr Fs ok hM hQa hx) ?_
    rintro v w3 ⟨hleft,F3,hD3,hG3,hK3⟩
    have hQ3:=hQ _ _ _ _ hQa hK3 hG3
    simp -dsimp [go_sem]
    refine call (done_spec g _ _ _ hD3 (by rw [hleft]; exact hmz)) ?_
    rintro v w4 ⟨rfl,hD4,hk4⟩
    have hF3g:F3 g:=by
     obtain ⟨_,_,_,_,_,h⟩:=hD3
     exact h.fg
    have hK4:Kp F3 w3 w4:=hk4.mono fun j _ (e:j = g) => e ▸ hF3g
    have hQ4:=hQ _ F3 _ _ hQ3 hK4 fun k h => .inl h
    have hk1:IntKind.i64.wrap ((i:Int) + 1) = ((i + 1:Nat):Int):=w64 (by omega) (by omega)
    have hE4:dEach f D ns = dEach f (f Di s x).done (ns.drop (i + 1)):=by
     rw [hE]
     simp only [dEach,hst]
     rw [if_neg (fun h => h rfl)]
    obtain ⟨k1,hk1'⟩:∃ k1,k1 = i + 1:=⟨_,rfl⟩
    rw [← hk1'] at hk1 hE4
    simp -dsimp [go_sem,s15,hk1]
    have hG13:=Gr.trans hGa hG3 hKa.size hK3.size
    exact ⟨⟨k1,_,F3,by omega,rfl,hE4,hD4,hQ4,Gr.wide hG13 (Nat.le_refl _) hk4.size,(Kp.gr hKa hGa hK3).gr hG13 hK4⟩,by simp [intOf]; omega⟩
  ·have h0':((e:Int) != 0) = true:=by simp; omega
   rw [if_pos h0] at hst
   simp -dsimp [go_sem,h0']
   rw [hE]
   simp only [dEach,hst]
   rw [if_pos h0]
   exact ⟨rfl,Fi,hD.nw ka,hGa,hKa⟩
 ·obtain rfl:i = ns.length:=by omega
  rw [List.drop_length] at hE
  simp -dsimp [go_sem]
  rw [hE]
  exact ⟨rfl,Fi,hD,hG,hK⟩
/-- A file's own block has turned, or what it reads of its bytes. -/
theorem DkM.reset {w w':World} {g:Nat} {D:Dsk} {F:Nat → Prop} {r:Nat} {z:Int} {ptr:Nm → Nat} {Fs:Nm → Nat → Prop} (ok:D.Ok) (h:DkM w g D F r z ptr Fs) {s:Nm} {x:Fil} (hx:tLook D.fs s = some x) (f:Fil) (v:Value) (G:Nat → Prop)
  (hk:Kp (At (ptr s)) w w') (hb:Blk w' (ptr s) 137 #[v,i64 f.l]) (hB:Bf w' v f.b G) (hG:∀ k,G k → Fs s k) (hn:¬ G (ptr s)) (h1:f.l ≤ f.b.length) (h2:f.b.length ≤ x.b.length) :
  ∃ F',Dk w' g { D with fs:=tLay D.fs s f } F' ∧ Gr F F' w w' ∧ Kp F w w':=by
 have hm1:Mf ptr D.fs s = some (.pointer (some ⟨ptr s,0,none⟩)):=by simp [Mf,hx]
 have hps:Fs s (ptr s):=by
  obtain ⟨u,G',_,_,_,hin,_⟩:=h.files s x hx
  exact hin _ (.inl rfl)
 have hrp:r ≠ ptr s:=fun e => (h.inn s r (e ▸ hps)).2.2 rfl
 have hu:=ok.used
 exact ⟨_,Dk.turned ok h s f (ptr s) (fun k => k = ptr s ∨ G k) (hk.mono fun i _ (e:i = ptr s) => .inl (e ▸ hps)) (by rw [put_self hm1]; exact h.mp.kp hk hrp)
  ⟨v,G,hb,hB,hn,fun k h => h,fun k hk => hk.elim (fun e => e ▸ hb.lt) (hB.lt k)⟩ (fun k hk => .inl (hk.elim (fun e => e ▸ hps) (hG k))) h1 (by rw [hx]; show D.used + f.b.length ≤ D.room + x.b.length; omega) (by rw [hx]; intro h; cases h) (ok.names s x hx)⟩
theorem sync1 (g:Nat):DoesF 160 #[] fSync g (fun _ _ => True):=by
 intro D s x F w r z ptr Fs ok h _ hx
 obtain ⟨u,G,hb,hBf,hnG,hin,hlt⟩:=h.files s x hx
 obtain ⟨A,c,rfl,ho,ho1,ho2⟩:=id hBf
 have h0:=hb.cell 0
 have h1:=hb.cell 1
 have hf:=hb.frozen 1
 refine enter Tryz.mixed Tryz.func160 rfl (by kernel_rfl) ?_
 simp -dsimp [go_sem,h0,h1,hf]
 have hset:Kp (At (ptr s)) w (w.setCell ⟨ptr s,1,none⟩ (i64 x.b.length)):=(Kp.refl _ _).setCell_at _ _
 exact ⟨rfl,h.reset ok hx ⟨x.b,x.b.length⟩ _ G hset (Blk.set0 hb _ _ rfl) (hBf.kp hset fun i hi (e:i = ptr s) => hnG (e ▸ hi)) (fun k hk => hin _ (.inr hk)) hnG (Nat.le_refl _) (Nat.le_refl _)⟩
theorem Mf_gone (ptr:Nm → Nat) {fs:List (Nm × Fil)} (hs:Srt fs) (s:Nm):Mf ptr (tGone fs s) = cutM (Mf ptr fs) s:=by
 funext t
 simp only [Mf,cutM,tLook_gone hs]
 split
 ·rfl
 ·rfl
theorem Dsk.Ok.rem {D:Dsk} (h:D.Ok) (s:Nm):Dsk.Ok { D with fs:=tGone D.fs s }:=by
 have hs:=sumv_gone D.fs (fun f:Fil => f.b.length) s
 have hu:D.used = sumv (fun f:Fil => f.b.length) D.fs:=rfl
 have hused:=h.used
 have hl:=gone_len D.fs s
 have hm:=h.many
 refine ⟨h.srt.tGone s,h.room,by unfold Dsk.used; simp only; omega,?_,fun t x hx => ?_,h.left,fun t x hx => ?_⟩
 ·simp only
  rw [hl]
  split <;> omega
 ·simp only [tLook_gone h.srt] at hx
  split at hx
  ·cases hx
  ·exact h.lasts t x hx
 ·simp only [tLook_gone h.srt] at hx
  split at hx
  ·cases hx
  ·exact h.names t x hx
theorem remove1 (g bx:Nat):DoesF 208 #[.pointer (some ⟨bx,0,none⟩)] fRemove g (fun F w => w.cell? ⟨bx,0,none⟩ = some (.pointer (some ⟨g,0,none⟩)) ∧ ¬ F bx):=by
 intro D s x F w r z ptr Fs ok h hq hx
 obtain ⟨hq,_⟩:=hq
 have K:KeyS Tryz.prog 9 (fun s:Nm => str s):=keyL (by kernel_rfl)
 have hmt:Tryz.prog.underlying 129 = some (.map 9 135):=by kernel_rfl
 have h1:=h.blk.cell 1
 obtain ⟨w1,hdel,hm1,hk1⟩:=delete_mp (ty:=0) K hmt h.mp s
 have hdel':deleteS Tryz.prog #[129,9] 0 #[.map (some r),str s] w = .ok (.tuple #[]) w1:=hdel
 refine enter Tryz.mixed Tryz.func208 rfl (by kernel_rfl) ?_
 simp -dsimp [go_sem,hq,h1,hdel']
 have hng:∀ i,(∃ t,Fs t i) ∨ i = g → i ≠ r:=fun i hi e => by
  rcases hi with ⟨t,ht⟩ | hi
  ·exact (h.inn t i ht).2.2 e
  ·exact h.ne (hi.symm.trans e)
 refine ⟨rfl,F,⟨ok.rem s,r,z,ptr,Fs,h.blk.kp hk1 (hng g (.inr rfl)),h.left,by rw [show (fRemove D s x).fs = tGone D.fs s from rfl,Mf_gone ptr ok.srt]; exact hm1,fun t y hy => ?_,h.apart,h.inn,h.ne,h.fg,h.fr,fun i hi => Nat.lt_of_lt_of_le (h.lt i hi) hk1.size⟩,fun k h => .inl h,hk1.mono fun i _ (e:i = r) => e ▸ h.fr⟩
 rw [show (fRemove D s x).fs = tGone D.fs s from rfl,tLook_gone ok.srt] at hy
 split at hy
 ·cases hy
 ·exact (h.files t y hy).kp hk1 fun i hi e => hng i (.inl ⟨t,hi⟩) e
theorem dsync_spec (ns:List Nm) (A:Option Addr) (c g:Nat) (D:Dsk) (F:Nat → Prop) (w:World) (h:Dk w g D F) (hr:Rd w A (ns.map fun s => str s)) (hA:Ofl A (ns.map fun s => str s) F) (hl:ns.length ≤ 140737488355328) (hs:∀ s ∈ ns,s.length ≤ 9223372036854775807) :
  Cal Tryz.prog 100 #[.pointer (some ⟨g,0,none⟩),.slice A ns.length c] w fun v w' => v = i64 (dEach fSync D ns).2 ∧ ∃ F',Dk w' g (dEach fSync D ns).1 F' ∧ Gr F F' w w' ∧ Kp F w w':=by
 refine enter Tryz.mixed Tryz.func100 rfl (by kernel_rfl) ?_
 simp -dsimp [go_sem]
 refine call (each_spec 160 (by kernel_rfl) #[] fSync (fun _ _ => True) g (fun _ _ _ _ _ _ _ => trivial) (sync1 g) ns A c D F w h trivial hr hA hl hs) ?_
 rintro v w' ⟨rfl,h⟩
 simp -dsimp [go_sem]
 exact h
theorem dremove_spec (ns:List Nm) (A:Option Addr) (c g:Nat) (D:Dsk) (F:Nat → Prop) (w:World) (h:Dk w g D F) (hr:Rd w A (ns.map fun s => str s)) (hA:Ofl A (ns.map fun s => str s) F) (hl:ns.length ≤ 140737488355328) (hs:∀ s ∈ ns,s.length ≤ 9223372036854775807) :
  Cal Tryz.prog 171 #[.pointer (some ⟨g,0,none⟩),.slice A ns.length c] w fun v w' => v = i64 (dEach fRemove D ns).2 ∧ ∃ F',Dk w' g (dEach fRemove D ns).1 F' ∧ Gr F F' w w' ∧ Kp F w w':=by
 refine enter Tryz.mixed Tryz.func171 rfl (by kernel_rfl) ?_
 simp -dsimp [go_sem]
 have ka:Nw w (w.alloc (.cells #[.pointer (some ⟨g,0,none⟩)] 44)):=(Kp.refl _ _).alloc _
 have hba:Blk (w.alloc (.cells #[.pointer (some ⟨g,0,none⟩)] 44)) w.heap.size 44 #[.pointer (some ⟨g,0,none⟩)]:=Blk.new _ _ _
 have hc:=hba.cell 0
 have hlt:=h.lt
 have hcs:(w.alloc (.cells #[.pointer (some ⟨g,0,none⟩)] 44)).cell? ⟨w.heap.size,0,none⟩ = some (.pointer (some ⟨g,0,none⟩)):=by rw [hc]; rfl
 refine call (each_spec 208 (by kernel_rfl) #[.pointer (some ⟨w.heap.size,0,none⟩)] fRemove (fun F w' => w'.cell? ⟨w.heap.size,0,none⟩ = some (.pointer (some ⟨g,0,none⟩)) ∧ ¬ F w.heap.size) g ?_ (remove1 g _) ns A c D F _ (h.nw ka) ⟨hcs,fun e => Nat.lt_irrefl _ (hlt _ e)⟩ (hr.nw ka) hA hl hs) ?_
 ·intro F1 F2 a b ⟨h1,h2⟩ hk hG
  refine ⟨hk.cell_some h1 h2,fun e => ?_⟩
  rcases hG _ e with e | e
  ·exact h2 e
  ·have:=World.block_lt_of_cell? a _ h1
   have h3:w.heap.size < a.heap.size:=this
   omega
 ·rintro v w' ⟨rfl,F',h1,h2,h3⟩
  simp -dsimp [go_sem]
  exact ⟨F',h1,Gr.wide h2 ka.size (Nat.le_refl _),(ka.kp F).trans h3 fun _ _ h => h⟩
theorem _root_.Go.Vc.Ow.cap {w:World} {e:TypeId} {sz n c c':Nat} {A:Option Addr} {xs:List Value} (h:Ow w e sz A n c xs) (h1:n ≤ c') (h2:c' ≤ c):Ow w e sz A n c' xs:=by
 obtain ⟨g1,g2,g3,g4⟩:=h
 refine ⟨g1,h1,Nat.le_trans h2 g3,?_⟩
 rcases g4 with ⟨rfl,rfl⟩ | ⟨g,cur,rfl,hg,h5,h6⟩
 ·exact .inl ⟨rfl,by omega⟩
 ·exact .inr ⟨g,cur,rfl,hg,Nat.le_trans (Nat.mul_le_mul_right _ h2) h5,h6⟩
def dRead (D:Dsk) (s:Nm):List UInt8 × Nat:=match tLook D.fs s with
 | none => ([],7)
 | some x => (x.b,0)
theorem dRead_len {D:Dsk} (ok:D.Ok) (a:Nm):(dRead D a).1.length ≤ 1073741824:=by
 have h1:=ok.used
 have h2:=ok.room
 unfold dRead
 cases hl:tLook D.fs a with
 | none => simp
 | some f =>
  have h3:=sumv_ge (fun f:Fil => f.b.length) hl
  have h5:D.used = sumv (fun f:Fil => f.b.length) D.fs:=rfl
  simp only
  omega
theorem dread_spec (s:Nm) (g:Nat) (D:Dsk) (F:Nat → Prop) (w:World) (h:Dk w g D F) :
  Cal Tryz.prog 167 #[.pointer (some ⟨g,0,none⟩),str s] w fun v w' => Nw w w' ∧ ∃ u,v = .tuple #[u,i64 (dRead D s).2] ∧ Bs w' u (dRead D s).1 w.heap.size:=by
 obtain ⟨ok,r,z,ptr,Fs,h⟩:=h
 have K:KeyS Tryz.prog 9 (fun s:Nm => str s):=keyL (by kernel_rfl)
 have hmt:Tryz.prog.underlying 129 = some (.map 9 135):=by kernel_rfl
 have g1:=h.blk.cell 1
 have hlk:=lookup_mp K hmt (z:=.pointer none) (w:=w) rfl h.mp s false
 refine enter Tryz.mixed Tryz.func167 rfl (by kernel_rfl) ?_
 cases hx:tLook D.fs s with
 | none =>
  have e:dRead D s = ([],7):=by unfold dRead; rw [hx]
  have hm1:Mf ptr D.fs s = none:=by simp [Mf,hx]
  rw [hm1] at hlk
  simp -dsimp [go_sem,g1,hlk]
  rw [e]
  exact ⟨Kp.refl _ _,_,⟨rfl,rfl⟩,Bs.nil _ _⟩
 | some x =>
  have e:dRead D s = (x.b,0):=by unfold dRead; rw [hx]
  have hm1:Mf ptr D.fs s = some (.pointer (some ⟨ptr s,0,none⟩)):=by simp [Mf,hx]
  rw [hm1] at hlk
  obtain ⟨u,G,hb,hBf,hnG,hin,hlt⟩:=h.files s x hx
  obtain ⟨A,c,rfl,ho,ho1,ho2⟩:=id hBf
  have h0:=hb.cell 0
  have hxu:x.b.length ≤ D.used:=sumv_ge (fun f:Fil => f.b.length) hx
  have:=ok.used
  have:=ok.room
  simp -dsimp [go_sem,g1,hlk,h0]
  refine call (clone_spec A c x.b w ho.rd (by omega)) ?_
  rintro v w1 ⟨hB,hk⟩
  simp -dsimp [go_sem]
  rw [e]
  exact ⟨hk,v,⟨rfl,rfl⟩,hB⟩
def dFuse (D:Dsk) (n:Int):Dsk:={ D with left:=if n < 0 then none else some n.toNat }
theorem dfuse_spec (n:Int) (hn:n ≤ 9223372036854775807) (g:Nat) (D:Dsk) (F:Nat → Prop) (w:World) (h:Dk w g D F) :
  Cal Tryz.prog 23 #[.pointer (some ⟨g,0,none⟩),i64 n] w fun v w' => v = .tuple #[] ∧ Dk w' g (dFuse D n) F ∧ Kp (At g) w w':=by
 obtain ⟨ok,r,z,ptr,Fs,h⟩:=h
 have h2:=h.blk.cell 2
 have hf2:=h.blk.frozen 2
 have hb2:=Blk.set0 h.blk 2 (.bool (decide (0 ≤ n))) rfl
 have h3:=hb2.cell 3
 have hf3:=hb2.frozen 3
 have hb3:=Blk.set0 hb2 3 (i64 (max 0 n)) rfl
 refine enter Tryz.mixed Tryz.func23 rfl (by kernel_rfl) ?_
 simp -dsimp [go_sem,h2,hf2,h3,hf3]
 have hk:Kp (At g) w ((w.setCell ⟨g,2,none⟩ (.bool (decide (0 ≤ n)))).setCell ⟨g,3,none⟩ (i64 (max 0 n))):=((Kp.refl _ _).setCell_at _ _).setCell_at _ _
 have hng:∀ s i,Fs s i → ¬ At g i:=fun s i hi (e:i = g) => (h.inn s i hi).2.1 e
 refine ⟨⟨⟨ok.srt,ok.room,ok.used,ok.many,ok.lasts,fun m hm => ?_,ok.names⟩,r,max 0 n,ptr,Fs,⟨?_,fun m hm => ?_,h.mp.kp hk (fun e => h.ne e.symm),fun s f hf => (h.files s f hf).kp hk (hng s),
   h.apart,h.inn,h.ne,h.fg,h.fr,fun i hi => Nat.lt_of_lt_of_le (h.lt i hi) hk.size⟩⟩,hk⟩
 ·unfold dFuse at hm
  simp only at hm
  split at hm
  ·cases hm
  ·cases hm; omega
 ·have e:(dFuse D n).left.isSome = decide (0 ≤ n):=by
   unfold dFuse
   simp only
   split
   ·simp; omega
   ·simp; omega
  rw [e]
  exact hb3
 ·unfold dFuse at hm
  simp only at hm
  split at hm
  ·cases hm
  ·cases hm; omega
/-- What a crash leaves of a file. -/
def cutF (d:Nat) (x:Fil):Fil:=⟨x.b.take (x.l + d % (x.b.length - x.l + 1)),x.l + d % (x.b.length - x.l + 1)⟩
def dCrash (D:Dsk) (n:Int):Dsk:={ D with fs:=mapv (cutF n.toNat) D.fs,left:=none }
theorem cutF_le (d:Nat) {x:Fil} (h:x.l ≤ x.b.length):(cutF d x).l ≤ x.b.length ∧ (cutF d x).b.length = (cutF d x).l:=by
 have:d % (x.b.length - x.l + 1) < x.b.length - x.l + 1:=Nat.mod_lt _ (by omega)
 unfold cutF
 simp only [List.length_take]
 omega
theorem sumv_mapv_le {β:Type} (n:β → Nat) (c:β → β) (l:List (Nm × β)) (h:∀ x ∈ l,n (c x.2) ≤ n x.2):sumv n (mapv c l) ≤ sumv n l:=by
 unfold sumv mapv
 induction l with
 | nil => simp
 | cons x l ih =>
  have h1:=h x (by simp)
  have h2:=ih fun y hy => h y (by simp [hy])
  simp only [List.map_cons,List.sum_cons] at h2 ⊢
  omega
theorem Dsk.Ok.crash {D:Dsk} (h:D.Ok) (n:Int):(dCrash D n).Ok:=by
 have hl:∀ x ∈ D.fs,x.2.l ≤ x.2.b.length:=fun ⟨s,x⟩ hx => h.lasts s x ((tLook_mem h.srt).2 hx)
 have hu:(dCrash D n).used ≤ D.used:=sumv_mapv_le _ _ _ fun x hx => by
  have:=cutF_le n.toNat (hl x hx)
  omega
 refine ⟨h.srt.mapv _,h.room,Nat.le_trans hu h.used,by simpa [dCrash,mapv] using h.many,fun s f hf => ?_,by simp [dCrash],fun s f hf => ?_⟩
 ·unfold dCrash at hf
  simp only [tLook_mapv] at hf
  cases hx:tLook D.fs s with
  | none => rw [hx] at hf; cases hf
  | some x =>
   rw [hx] at hf
   cases hf
   have:=cutF_le n.toNat (h.lasts s x hx)
   omega
 ·unfold dCrash at hf
  simp only [tLook_mapv] at hf
  cases hx:tLook D.fs s with
  | none => rw [hx] at hf; cases hf
  | some x => exact h.names s x hx
theorem dcrash_spec (n:Int) (g:Nat) (D:Dsk) (F:Nat → Prop) (w:World) (h:Dk w g D F) :
  Cal Tryz.prog 25 #[.pointer (some ⟨g,0,none⟩),i64 n] w fun v w' => v = .tuple #[] ∧ Dk w' g (dCrash D n) F ∧ Kp F w w':=by
 obtain ⟨ok,r,z,ptr,Fs,h⟩:=h
 have h1:=h.blk.cell 1
 have K:KeyS Tryz.prog 9 (fun s:Nm => str s):=keyL (by kernel_rfl)
 have hmt:Tryz.prog.underlying 129 = some (.map 9 135):=by kernel_rfl
 obtain ⟨w1,hrun,hR,hk1⟩:=range_mp hmt h.mp
 refine enter Tryz.mixed Tryz.func25 rfl (by kernel_rfl) ?_
 simp -dsimp [go_sem,h1,hrun]
 have hu:D.used ≤ 1073741824:=Nat.le_trans ok.used ok.room
 have hrl:=h.lt r h.fr
 have hgl:=h.lt g h.fg
 obtain ⟨it,hit⟩:∃ it,it = w.heap.size:=⟨_,rfl⟩
 rw [← hit] at hR ⊢
 have hFs:∀ t k,Fs t k → k < it:=fun t k hk => by rw [hit]; exact h.lt k (h.inn t k hk).1
 have hps:∀ s x,tLook D.fs s = some x → Fs s (ptr s):=fun s x hx => by
  obtain ⟨u,G',_,_,_,hin,_⟩:=h.files s x hx
  exact hin _ (.inl rfl)
 refine loop [5,6,14,15,16,17,18,19,20,21,22,23,24,25,26,27,28,29,30,31,32,33,34,35,36,37,38,39,40,41,42,43,44,45,46,47,48,49,50] (by kernel_rfl)
  (fun _ w' => Box (∃ (left:Nm → Bool),Rg w' it r (fun s:Nm => str s) (Mf ptr D.fs) (fun s => left s = true) ∧ (∀ s x,tLook D.fs s = some x → FileAt w' (ptr s) (if left s then x else cutF n.toNat x) (Fs s)) ∧ Kp (fun k => ∃ s,Fs s k) w w')) (fun _ w' => rgN w' it r)
  ⟨fun _ => true,by simpa using hR,fun s x hx => (h.files s x hx).kp hk1 fun _ _ h => h,hk1.kp _⟩ ?_
 rintro s0 w2 ⟨left,hR,hF,hK⟩
 have hb2:=h.blk.kp hK fun ⟨t,ht⟩ => (h.inn t g ht).2.1 rfl
 rcases next_rg (P:=Tryz.prog) K.inj hR 0 with ⟨hend,hnext⟩ | ⟨a,v,w3,ha,hla,hnext,hR2,hK2,hN2,hentry⟩
 ·have h2:=hb2.cell 2
  have hf2:=hb2.frozen 2
  simp -dsimp [go_sem,hnext,h2,hf2]
  have hset:Kp (At g) w2 (w2.setCell ⟨g,2,none⟩ (.bool false)):=(Kp.refl _ _).setCell_at _ _
  have hng:∀ s i,Fs s i → ¬ At g i:=fun s i hi (e:i = g) => (h.inn s i hi).2.1 e
  have hkF:Kp F w w2:=hK.mono fun i _ ⟨t,ht⟩ => (h.inn t i ht).1
  refine ⟨⟨ok.crash n,r,z,ptr,Fs,⟨Blk.set0 hb2 2 (.bool false) rfl,by simp [dCrash],?_,fun s f hf => ?_,h.apart,h.inn,h.ne,h.fg,h.fr,fun i hi => Nat.lt_of_lt_of_le (h.lt i hi) (hkF.trans hset fun i _ (e:i = g) => e ▸ h.fg).size⟩⟩,hkF.trans hset fun i _ (e:i = g) => e ▸ h.fg⟩
  ·have e:Mf ptr (dCrash D n).fs = Mf ptr D.fs:=by
    funext t
    unfold dCrash Mf
    simp only [tLook_mapv]
    cases tLook D.fs t <;> rfl
   rw [e]
   exact hR.mp.kp hset fun e => h.ne (e:r = g).symm
  ·unfold dCrash at hf
   simp only [tLook_mapv] at hf
   cases hx:tLook D.fs s with
   | none => rw [hx] at hf; cases hf
   | some x =>
    rw [hx] at hf
    cases hf
    have hle:left s = false:=by
     have:=hend s (.pointer (some ⟨ptr s,0,none⟩)) (by simp [Mf,hx])
     simpa using this
    have:=hF s x hx
    rw [hle] at this
    exact this.kp hset (hng s)
 ·obtain ⟨x,hx⟩:∃ x,tLook D.fs a = some x:=by
   cases hx:tLook D.fs a with
   | none => simp [Mf,hx] at ha
   | some x => exact ⟨x,rfl⟩
  have hv:v = .pointer (some ⟨ptr a,0,none⟩):=by
   simp [Mf,hx] at ha
   exact ha.symm
  subst hv
  have hitF:∀ t i,Fs t i → ¬ At it i:=fun t i hi (e:i = it) => by have:=hFs t i hi; omega
  have hfa:=(hF a x hx).kp hK2 (hitF a)
  rw [if_pos hla] at hfa
  obtain ⟨u,G,hb,hBf,hnG,hin,hlt⟩:=hfa
  obtain ⟨A,c,rfl,ho,ho1,ho2⟩:=id hBf
  have f0:=hb.cell 0
  have f1:=hb.cell 1
  have hcut:=cutF_le n.toNat (ok.lasts a x hx)
  have hxl:=ok.lasts a x hx
  have hxu:x.b.length ≤ D.used:=sumv_ge (fun f:Fil => f.b.length) hx
  have hsub:IntKind.i64.wrap ((x.b.length:Int) - (x.l:Int)) = ((x.b.length - x.l:Nat):Int):=by rw [w64 (by omega) (by omega)]; omega
  obtain ⟨q,hq⟩:∃ q,q = x.b.length - x.l:=⟨_,rfl⟩
  rw [← hq] at hsub
  have hq1:IntKind.i64.wrap ((q:Int) + 1) = ((q + 1:Nat):Int):=w64 (by omega) (by omega)
  have hrem:(max 0 n).tmod ((q + 1:Nat):Int) = ((n.toNat % (q + 1):Nat):Int):=by
   have e:max 0 n = (n.toNat:Int):=by omega
   rw [e,Int.tmod_eq_emod_of_nonneg (by omega)]
   rfl
  have hcl:(cutF n.toNat x).l = x.l + n.toNat % (q + 1):=by rw [hq]; rfl
  have hcb:(cutF n.toNat x).b = x.b.take (cutF n.toNat x).l:=rfl
  obtain ⟨q1,hq1'⟩:∃ q1,q1 = q + 1:=⟨_,rfl⟩
  rw [← hq1'] at hq1 hrem hcl
  have hq1n:¬ q1 = 0:=by omega
  obtain ⟨t,ht⟩:∃ t,t = n.toNat % q1:=⟨_,rfl⟩
  rw [← ht] at hrem hcl
  obtain ⟨m,hm⟩:∃ m,m = (cutF n.toNat x).l:=⟨_,rfl⟩
  rw [← hm] at hcl hcut hcb
  have hadd:IntKind.i64.wrap ((x.l:Int) + (t:Int)) = (m:Int):=by rw [w64 (by omega) (by omega)]; omega
  have hmc:m ≤ c:=by have:=ho.2.1; omega
  have hmc':(m:Int) ≤ (c:Int):=by omega
  have hF3:∀ s x,tLook D.fs s = some x → FileAt w3 (ptr s) (if left s then x else cutF n.toNat x) (Fs s):=fun s x hx => (hF s x hx).kp hK2 (hitF s)
  have hK3:Kp (fun k => ∃ s,Fs s k) w w3:=hK.trans hK2 fun i hi (e:i = it) => by omega
  have hfr0:=hb.frozen 0
  have hbs:=Blk.set0 hb 0 (.slice A m m) rfl
  have f11:=hbs.cell 1
  have hfr1:=hbs.frozen 1
  have hbs2:=Blk.set0 hbs 1 (i64 m) rfl
  simp -dsimp [go_sem,hnext,hentry]
  refine draw (.take 0 (.take 1 (.take 2 (.take 3 (.take 4 (.take 5 (.take 6 (.take 7 (.take 8 (.take 9 (.take 10 (.take 11 (.take 12 (.take 13 (.take 14 (.take 15 (.take 16 (.take 17 (.take 18 (.take 19 .done)))))))))))))))))))) (by kernel_rfl) (fun w' => w'.heap = w3.heap) rfl ?_
  have hcell:∀ w':World,w'.heap = w3.heap → ∀ a,w'.cell? a = w3.cell? a:=fun w' h a => by simp [World.cell?,h]
  simp -dsimp [go_sem,f0,f1,hsub,hq1,hrem,hq1n,hadd]
  refine ⟨fun w' h => by simp [hcell w' h,f1],fun w' h => by simp [hcell w' h,f0],fun w' h => by simp [hcell w' h,f1],?_⟩
  have hd:w3.drew.frozen? ⟨ptr a,0,none⟩ = false:=hfr0
  simp -dsimp [go_sem,f0,hmc,hmc',hfr0,f11,hfr1]
  have hset:Kp (At (ptr a)) w3 (((w3.setCell ⟨ptr a,0,none⟩ (.slice A m m)).setCell ⟨ptr a,1,none⟩ (i64 m)).drew):=(((Kp.refl _ _).setCell_at _ _).setCell_at _ _).drew
  have hpa:=hps a x hx
  obtain ⟨hR4,hN4⟩:=hR2.kp hset (fun e => by have:=hFs a _ hpa; have e:it = ptr a:=e; omega) (fun e => (h.inn a _ hpa).2.2 (Eq.symm e))
  refine ⟨⟨fun s => left s && !decide (s = a),by simpa using hR4,fun s y hy => ?_,hK3.trans hset fun i _ (e:i = ptr a) => ⟨a,e ▸ hpa⟩⟩,by rw [hN4]; exact hN2⟩
  by_cases hsa:s = a
  ·subst hsa
   rw [hx] at hy
   cases hy
   show FileAt _ _ (if (left s && !decide (s = s)) = true then x else _) _
   rw [if_neg (by simp)]
   have hB4:Bf w3 (.slice A m m) (cutF n.toNat x).b G:=by
    have h1:=(ho.take (m:=m) (by omega)).cap (Nat.le_refl _) hmc
    rw [Nat.mul_one,← List.map_take,← hcb] at h1
    exact ⟨A,m,by rw [hcut.2],by rw [hcut.2]; exact h1,ho1,ho2⟩
   exact ⟨_,G,by rw [← hm]; exact hbs2,hB4.kp hset fun i hi (e:i = ptr s) => hnG (e ▸ hi),hnG,hin,fun k hk => Nat.lt_of_lt_of_le (hlt k hk) hset.size⟩
  ·have e:(left s && !decide (s = a)) = left s:=by simp [hsa]
   show FileAt _ _ (if (left s && !decide (s = a)) = true then y else _) _
   rw [e]
   exact (hF3 s y hy).kp hset fun i hi (e:i = ptr a) => h.apart s a i hsa hi (e ▸ hpa)
def dRename (D:Dsk) (a b:Nm):Dsk × Nat:=if mayL D [a,b] ≠ 0 then (D,mayL D [a,b]) else match tLook D.fs a with
 | none => (D,7)
 | some x => (Dsk.done { D with fs:=tLay (tGone D.fs a) b x },0)
theorem sumv_swap {fs:List (Nm × Fil)} (hs:Srt fs) (n:Fil → Nat) {a b:Nm} {x:Fil} (hx:tLook fs a = some x):sumv n (tLay (tGone fs a) b x) ≤ sumv n fs:=by
 have h1:=sumv_gone fs n a
 have h2:=sumv_lay (hs.tGone a) n b x
 rw [hx] at h1
 simp only [Option.map_some,Option.getD_some] at h1
 omega
theorem Dsk.Ok.ren {D:Dsk} (h:D.Ok) (a b:Nm) (x:Fil) (hx:tLook D.fs a = some x) (hn:b.length ≤ 64):Dsk.Ok { D with fs:=tLay (tGone D.fs a) b x }:=by
 have hs:=sumv_swap h.srt (fun f:Fil => f.b.length) (b:=b) hx
 have hu:D.used = sumv (fun f:Fil => f.b.length) D.fs:=rfl
 have hused:=h.used
 have hl:=gone_len D.fs a
 have hl2:=lay_len (h.srt.tGone a) b x
 have hm:=h.many
 have hpos:=List.length_pos_of_mem (tLook_some hx)
 rw [hx] at hl
 simp only [Option.isSome_some,if_true] at hl
 refine ⟨(h.srt.tGone a).tLay b x,h.room,by unfold Dsk.used; simp only; omega,?_,fun t y hy => ?_,h.left,fun t y hy => ?_⟩
 ·simp only
  rw [hl2]
  split <;> omega
 ·simp only [tLook_lay] at hy
  split at hy
  ·cases hy
   exact h.lasts a _ hx
  ·rw [tLook_gone h.srt] at hy
   split at hy
   ·cases hy
   ·exact h.lasts t y hy
 ·simp only [tLook_lay] at hy
  split at hy
  ·rename_i e; rw [e]; exact hn
  ·rw [tLook_gone h.srt] at hy
   split at hy
   ·cases hy
   ·exact h.names t y hy
theorem drename_spec (a b:Nm) (g:Nat) (D:Dsk) (F:Nat → Prop) (w:World) (h:Dk w g D F) (ha:a.length ≤ 9223372036854775807) (hb:b.length ≤ 9223372036854775807) :
  Cal Tryz.prog 202 #[.pointer (some ⟨g,0,none⟩),str a,str b] w fun v w' => v = i64 (dRename D a b).2 ∧ Dk w' g (dRename D a b).1 F ∧ Kp F w w':=by
 have K:KeyS Tryz.prog 9 (fun s:Nm => str s):=keyL (by kernel_rfl)
 have hmt:Tryz.prog.underlying 129 = some (.map 9 135):=by kernel_rfl
 refine enter Tryz.mixed Tryz.func202 rfl (by kernel_rfl) ?_
 simp -dsimp [go_sem]
 have ka:Nw w (w.alloc (.cells #[str a,str b] 9)):=(Kp.refl _ _).alloc _
 refine call (may_spec [a,b] (some ⟨w.heap.size,0,none⟩) 2 g D F _ (h.nw ka) (Rd.fresh rfl rfl) (by simp) (by simp; omega)) ?_
 rintro v w1 ⟨rfl,rfl⟩
 have hst:dRename D a b = if mayL D [a,b] ≠ 0 then (D,mayL D [a,b]) else match tLook D.fs a with
   | none => (D,7)
   | some x => (Dsk.done { D with fs:=tLay (tGone D.fs a) b x },0):=rfl
 have hmz:=@mayL_ok D [a,b]
 obtain ⟨e,he⟩:∃ e,e = mayL D [a,b]:=⟨_,rfl⟩
 rw [← he] at hst hmz ⊢
 by_cases h0:e = 0
 ·subst h0
  have hmz:=hmz rfl
  rw [if_neg (fun h => h rfl)] at hst
  obtain ⟨ok,r,z,ptr,Fs,hM⟩:=id (h.nw ka)
  have g1:=hM.blk.cell 1
  have hlk:=lookup_mp K hmt (z:=.pointer none) (w:=w.alloc (.cells #[str a,str b] 9)) rfl hM.mp a false
  cases hx:tLook D.fs a with
  | none =>
   have hm1:Mf ptr D.fs a = none:=by simp [Mf,hx]
   rw [hm1] at hlk
   rw [hx] at hst
   simp -dsimp [go_sem,g1,hlk]
   rw [hst]
   exact ⟨rfl,h.nw ka,ka.kp F⟩
  | some x =>
   have hm1:Mf ptr D.fs a = some (.pointer (some ⟨ptr a,0,none⟩)):=by simp [Mf,hx]
   rw [hm1] at hlk
   rw [hx] at hst
   obtain ⟨w2,hdel,hm2,hk2⟩:=delete_mp (ty:=0) K hmt hM.mp a
   have hdel':deleteS Tryz.prog #[129,9] 0 #[.map (some r),str a] (w.alloc (.cells #[str a,str b] 9)) = .ok (.tuple #[]) w2:=hdel
   obtain ⟨w3,hup,hm3,hk3⟩:=update_mp K hmt hm2 b (.pointer (some ⟨ptr a,0,none⟩))
   have hk23:Kp (At r) (w.alloc (.cells #[str a,str b] 9)) w3:=hk2.trans hk3 fun _ _ h => h
   have hb2:=hM.blk.kp hk2 (fun e => hM.ne e)
   have g12:=hb2.cell 1
   simp -dsimp [go_sem,g1,hlk,hdel',g12,hup]
   have hng:∀ i,(∃ t,Fs t i) ∨ i = g → ¬ At r i:=fun i hi (e:i = r) => by
    rcases hi with ⟨t,ht⟩ | hi
    ·exact (hM.inn t i ht).2.2 e
    ·exact hM.ne (hi.symm.trans e)
   have hM3:DkM w3 g { D with fs:=tLay (tGone D.fs a) b x } F r z (fun t => if t = b then ptr a else ptr t) (fun t => if t = b then Fs a else if t = a then fun _ => False else Fs t):=by
    refine ⟨hM.blk.kp hk23 (hng g (.inr rfl)),hM.left,?_,fun t y hy => ?_,fun t u k htu ht hu => ?_,fun t k ht => ?_,hM.ne,hM.fg,hM.fr,fun i hi => Nat.lt_of_lt_of_le (hM.lt i hi) hk23.size⟩
    ·rw [Mf_lay,Mf_gone ptr ok.srt]
     exact hm3
    ·simp only [tLook_lay] at hy
     by_cases htb:t = b
     ·rw [if_pos htb] at hy
      cases hy
      simp only [if_pos htb]
      exact (hM.files a _ hx).kp hk23 fun i hi => hng i (.inl ⟨a,hi⟩)
     ·rw [if_neg htb,tLook_gone ok.srt] at hy
      by_cases hta:t = a
      ·rw [if_pos hta] at hy; cases hy
      ·rw [if_neg hta] at hy
       simp only [if_neg htb,if_neg hta]
       exact (hM.files t y hy).kp hk23 fun i hi => hng i (.inl ⟨t,hi⟩)
    ·by_cases htb:t = b
     ·rw [if_pos htb] at ht
      by_cases hub:u = b
      ·exact htu (htb.trans hub.symm)
      ·rw [if_neg hub] at hu
       by_cases hua:u = a
       ·rw [if_pos hua] at hu; exact hu
       ·rw [if_neg hua] at hu
        exact hM.apart a u k (fun e => hua e.symm) ht hu
     ·rw [if_neg htb] at ht
      by_cases hta:t = a
      ·rw [if_pos hta] at ht; exact ht
      ·rw [if_neg hta] at ht
       by_cases hub:u = b
       ·rw [if_pos hub] at hu
        exact hM.apart t a k hta ht hu
       ·rw [if_neg hub] at hu
        by_cases hua:u = a
        ·rw [if_pos hua] at hu; exact hu
        ·rw [if_neg hua] at hu
         exact hM.apart t u k htu ht hu
    ·by_cases htb:t = b
     ·rw [if_pos htb] at ht
      exact hM.inn a k ht
     ·rw [if_neg htb] at ht
      by_cases hta:t = a
      ·rw [if_pos hta] at ht; exact ht.elim
      ·rw [if_neg hta] at ht
       exact hM.inn t k ht
   refine call (done_spec g _ F w3 ⟨ok.ren a b x hx (mayL_names he.symm b (by simp)),r,z,_,_,hM3⟩ hmz) ?_
   rintro v w4 ⟨rfl,hD4,hk4⟩
   simp -dsimp [go_sem]
   rw [hst]
   exact ⟨rfl,hD4,((ka.kp F).trans hk23 fun i _ (e:i = r) => e ▸ hM.fr).trans hk4 fun i _ (e:i = g) => e ▸ hM.fg⟩
 ·have h0':((e:Int) != 0) = true:=by simp; omega
  rw [if_pos h0] at hst
  simp -dsimp [go_sem,h0']
  rw [hst]
  exact ⟨rfl,h.nw ka,ka.kp F⟩
def dTrunc (D:Dsk) (s:Nm) (n:Int):Dsk × Nat:=if mayL D [s] ≠ 0 then (D,mayL D [s]) else match tLook D.fs s with
 | none => (D,7)
 | some x => if n < 0 ∨ (x.b.length:Int) < n then (D,1) else (Dsk.done { D with fs:=tLay D.fs s ⟨x.b.take n.toNat,min x.l n.toNat⟩ },0)
theorem dtrunc_spec (s:Nm) (n:Int) (g:Nat) (D:Dsk) (F:Nat → Prop) (w:World) (h:Dk w g D F) (hs:s.length ≤ 9223372036854775807) :
  Cal Tryz.prog 170 #[.pointer (some ⟨g,0,none⟩),str s,i64 n] w fun v w' => v = i64 (dTrunc D s n).2 ∧ ∃ F',Dk w' g (dTrunc D s n).1 F' ∧ Gr F F' w w' ∧ Kp F w w':=by
 have K:KeyS Tryz.prog 9 (fun s:Nm => str s):=keyL (by kernel_rfl)
 have hmt:Tryz.prog.underlying 129 = some (.map 9 135):=by kernel_rfl
 refine enter Tryz.mixed Tryz.func170 rfl (by kernel_rfl) ?_
 simp -dsimp [go_sem]
 have ka:Nw w (w.alloc (.cells #[str s] 9)):=(Kp.refl _ _).alloc _
 refine call (may_spec [s] (some ⟨w.heap.size,0,none⟩) 1 g D F _ (h.nw ka) (Rd.fresh rfl rfl) (by simp) (by simpa using hs)) ?_
 rintro v w1 ⟨rfl,rfl⟩
 have hst:dTrunc D s n = if mayL D [s] ≠ 0 then (D,mayL D [s]) else match tLook D.fs s with
   | none => (D,7)
   | some x => if n < 0 ∨ (x.b.length:Int) < n then (D,1) else (Dsk.done { D with fs:=tLay D.fs s ⟨x.b.take n.toNat,min x.l n.toNat⟩ },0):=rfl
 have hmz:=@mayL_ok D [s]
 obtain ⟨e,he⟩:∃ e,e = mayL D [s]:=⟨_,rfl⟩
 rw [← he] at hst hmz ⊢
 by_cases h0:e = 0
 ·subst h0
  have hmz:=hmz rfl
  rw [if_neg (fun h => h rfl)] at hst
  obtain ⟨ok,r,z,ptr,Fs,hM⟩:=id (h.nw ka)
  have g1:=hM.blk.cell 1
  have hlk:=lookup_mp K hmt (z:=.pointer none) (w:=w.alloc (.cells #[str s] 9)) rfl hM.mp s false
  have hda:=h.nw ka
  generalize w.alloc (.cells #[str s] 9) = wa at *
  cases hx:tLook D.fs s with
  | none =>
   have hm1:Mf ptr D.fs s = none:=by simp [Mf,hx]
   rw [hm1] at hlk
   rw [hx] at hst
   simp -dsimp [go_sem,g1,hlk]
   rw [hst]
   exact ⟨rfl,F,hda,fun k h => .inl h,ka.kp F⟩
  | some x =>
   have hm1:Mf ptr D.fs s = some (.pointer (some ⟨ptr s,0,none⟩)):=by simp [Mf,hx]
   rw [hm1] at hlk
   rw [hx] at hst
   simp only at hst
   obtain ⟨u,G,hb,hBf,hnG,hin,hlt⟩:=hM.files s x hx
   obtain ⟨A,c,rfl,ho,ho1,ho2⟩:=id hBf
   have f0:=hb.cell 0
   by_cases h1:n < 0
   ·rw [if_pos (.inl h1)] at hst
    simp -dsimp [go_sem,g1,hlk,h1]
    rw [hst]
    exact ⟨rfl,F,hda,fun k h => .inl h,ka.kp F⟩
   ·by_cases h2:(x.b.length:Int) < n
    ·rw [if_pos (.inr h2)] at hst
     simp -dsimp [go_sem,g1,hlk,h1,f0,h2]
     rw [hst]
     exact ⟨rfl,F,hda,fun k h => .inl h,ka.kp F⟩
    ·rw [if_neg (by omega)] at hst
     obtain ⟨N,rfl⟩:∃ N:Nat,n = N:=⟨n.toNat,by omega⟩
     rw [Int.toNat_natCast] at hst
     have h2n:¬ x.b.length < N:=by omega
     have hNc:N ≤ c:=by have:=ho.2.1; omega
     have hNc':(N:Int) ≤ (c:Int):=by omega
     have hfr0:=hb.frozen 0
     have hb1:=Blk.set0 hb 0 (.slice A N N) rfl
     have f1:=hb1.cell 1
     have hfr1:=hb1.frozen 1
     have hmin:min (x.l:Int) (N:Int) = ((min x.l N:Nat):Int):=by omega
     obtain ⟨m,hm⟩:∃ m,m = min x.l N:=⟨_,rfl⟩
     rw [← hm] at hmin hst
     simp -dsimp [go_sem,g1,hlk,h1,f0,h2,h2n,hNc,hNc',hfr0,f1,hfr1,hmin]
     have hset:Kp (At (ptr s)) wa ((wa.setCell ⟨ptr s,0,none⟩ (.slice A N N)).setCell ⟨ptr s,1,none⟩ (i64 m)):=((Kp.refl _ _).setCell_at _ _).setCell_at _ _
     have hB4:Bf wa (.slice A N N) (x.b.take N) G:=by
      have h1:=(ho.take (m:=N) (by omega)).cap (Nat.le_refl _) hNc
      rw [Nat.mul_one,← List.map_take] at h1
      have hl:(x.b.take N).length = N:=by rw [List.length_take]; omega
      exact ⟨A,N,by rw [hl],by rw [hl]; exact h1,ho1,ho2⟩
     have hl:(x.b.take N).length = N:=by rw [List.length_take]; omega
     obtain ⟨F',hD',hG',hK'⟩:=hM.reset ok hx ⟨x.b.take N,m⟩ _ G hset (Blk.set0 hb1 1 (i64 m) rfl) (hB4.kp hset fun i hi (e:i = ptr s) => hnG (e ▸ hi)) (fun k hk => hin _ (.inr hk)) hnG (by show m ≤ (x.b.take N).length; omega) (by show (x.b.take N).length ≤ x.b.length; omega)
     refine call (done_spec g _ F' _ hD' hmz) ?_
     rintro v w4 ⟨rfl,hD4,hk4⟩
     have hF'g:F' g:=by
      obtain ⟨_,_,_,_,_,h⟩:=hD'
      exact h.fg
     simp -dsimp [go_sem]
     rw [hst]
     exact ⟨rfl,F',hD4,Gr.wide hG' ka.size hk4.size,((ka.kp F).trans hK' fun _ _ h => h).trans hk4 fun i _ (e:i = g) => e ▸ hM.fg⟩
 ·have h0':((e:Int) != 0) = true:=by simp; omega
  rw [if_pos h0] at hst
  simp -dsimp [go_sem,h0']
  rw [hst]
  exact ⟨rfl,F,h.nw ka,fun k h => .inl h,ka.kp F⟩
end Go.Proofs.YtellahclbhfdiaaGreatDoor
