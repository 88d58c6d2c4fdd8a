/-
  each, Sync, Remove of a disk walked. By the session itself. Read, Fuse, Crash of a disk walked. By the session itself. Truncate, Rename of a disk walked. By the session itself. The check sum: octet.Sum and the reference's walked; a byte that is another one has another sum. By the session itself.
-/
import Derived.Test.YtellahclbhfdiaaGreatDoorQ12
import Derived.Test.YtellahclbhfdiaaGreatDoorQ04
import Derived.Laws.BitsAllLaws
namespace Go.Proofs.YtellahclbhfdiaaGreatDoor
set_option linter.unusedSimpArgs false
set_option linter.unusedVariables false
set_option maxRecDepth 100000
set_option maxHeartbeats 1000000
open Go.Vc Go.RowKit
def dStep (f:Dsk → Nm → Fil → Dsk) (D:Dsk) (s:Nm):Dsk × Nat :=
 if mayL D [s] ≠ 0 then (D,mayL D [s]) else match tLook D.fs s with
  | none => (D,7)
  | some x => ((f D s x).done,0)
def dEach (f:Dsk → Nm → Fil → Dsk):Dsk → List Nm → Dsk × Nat
 | D,[] => (D,0)
 | D,s :: r => if (dStep f D s).2 ≠ 0 then dStep f D s else dEach f (dStep f D s).1 r
def fSync (D:Dsk) (s:Nm) (x:Fil):Dsk:={ D with fs:=tLay D.fs s ⟨x.b,x.b.length⟩ }
def fRemove (D:Dsk) (s:Nm) (_:Fil):Dsk:={ D with fs:=tGone D.fs s }
theorem Gr.tr {F F' F'':Nat → Prop} {a b c:World} (h:Gr F F' a b) (k:Gr F' F'' b c) (h1:a.heap.size ≤ b.heap.size) (h2:b.heap.size ≤ c.heap.size):Gr F F'' a c:=h.trans k h1 h2
theorem mayL_ok {D:Dsk} {ns:List Nm} (h:mayL D ns = 0):D.left ≠ some 0:=fun e => by
 unfold mayL at h
 rw [if_pos e] at h
 cases h
/-- What a thing done with a file comes to. -/
def DoesF (k:FuncId) (bd:Array Value) (f:Dsk → Nm → Fil → Dsk) (g:Nat) (Q:(Nat → Prop) → World → Prop):Prop :=
 ∀ (D:Dsk) (s:Nm) (x:Fil) (F:Nat → Prop) (w:World) (r:Nat) (z:Int) (ptr:Nm → Nat) (Fs:Nm → Nat → Prop),D.Ok → DkM w g D F r z ptr Fs → Q F w → tLook D.fs s = some x →
  Cal Tryz.prog k (#[str s,.pointer (some ⟨ptr s,0,none⟩)] ++ bd) w fun v w' => (f D s x).left = D.left ∧ ∃ F',Dk w' g (f D s x) F' ∧ Gr F F' w w' ∧ Kp F w w'
theorem each_spec (k:FuncId) (hgo:isGo Tryz.prog k = true) (bd:Array Value) (f:Dsk → Nm → Fil → Dsk) (Q:(Nat → Prop) → World → Prop) (g:Nat) (hQ:∀ F F' w w',Q F w → Kp F w w' → Gr F F' w w' → Q F' w') (hcl:DoesF k bd f g Q)
  (ns:List Nm) (A:Option Addr) (c:Nat) (D:Dsk) (F:Nat → Prop) (w:World) (h:Dk w g D F) (hq:Q F w) (hr:Rd w A (ns.map fun s => str s)) (hA:Ofl A (ns.map fun s => str s) F) (hl:ns.length ≤ 140737488355328) (hs:∀ s ∈ ns,s.length ≤ 9223372036854775807) :
  Cal Tryz.prog 159 #[.pointer (some ⟨g,0,none⟩),.slice A ns.length c,.func (.func k) #[] bd] w fun v w' => v = i64 (dEach f D ns).2 ∧ ∃ F',Dk w' g (dEach f D ns).1 F' ∧ Gr F F' w w' ∧ Kp F w w':=by
 have K:KeyS Tryz.prog 9 (fun s:Nm => str s):=keyL (by kernel_rfl)
 have hmt:Tryz.prog.underlying 129 = some (.map 9 135):=by kernel_rfl
 have hcv:=fun (args:Array Value) (w:World) (K:Value → World → Prop) (j:Stop K) => callV_func hgo #[] bd args w K j
 refine enter Tryz.mixed Tryz.func159 rfl (by kernel_rfl) ?_
 simp -dsimp [go_sem]
 refine loop [6,8,9,10,15,16,17,18,19,20,21,22,23,24,25,26,27,28,29,30,31,32,33,34,35,36,37,38,39,40] (by kernel_rfl)
  (fun s w' => Box1 (fun a w' => ∃ (i:Nat) (Di:Dsk) (Fi:Nat → Prop),i ≤ ns.length ∧ a = i64 i ∧ dEach f D ns = dEach f Di (ns.drop i) ∧ Dk w' g Di Fi ∧ Q Fi w' ∧ Gr F Fi w w' ∧ Kp F w w') (s 15) w')
  (fun s _ => ns.length - (intOf (s 15)).toNat) ⟨0,D,F,Nat.zero_le _,rfl,rfl,h,hq,Gr.refl _ _,Kp.refl _ _⟩ ?_
 rintro s0 w1 ⟨i,Di,Fi,hi,s15,hE,hD,hQi,hG,hK⟩
 simp -dsimp [go_sem,s15]
 refine cond_d (fun hlt => ?_) (fun hlt => ?_)
 ·have hlt:i < ns.length:=by omega
  obtain ⟨b,o,rfl,hc⟩:=(hr.kp hK hA) i (str ns[i]) (by simp [hlt])
  have hsl:=hs ns[i] (List.getElem_mem hlt)
  rw [List.drop_eq_getElem_cons hlt] at hE
  obtain ⟨s,hs'⟩:∃ s,s = ns[i]:=⟨_,rfl⟩
  rw [← hs'] at hc hE hsl
  simp -dsimp [go_sem,s15,hlt,hc]
  have ka:Nw w1 (w1.alloc (.cells #[str s] 9)):=(Kp.refl _ _).alloc _
  refine call (may_spec [s] (some ⟨w1.heap.size,0,none⟩) 1 g Di Fi _ (hD.nw ka) (Rd.fresh rfl rfl) (by simp) (by simpa using hsl)) ?_
  rintro v w2 ⟨rfl,rfl⟩
  have hst:dStep f Di s = if mayL Di [s] ≠ 0 then (Di,mayL Di [s]) else match tLook Di.fs s with
    | none => (Di,7)
    | some x => ((f Di s x).done,0):=rfl
  have hmz:=@mayL_ok Di [s]
  obtain ⟨e,he⟩:∃ e,e = mayL Di [s]:=⟨_,rfl⟩
  rw [← he] at hst hmz ⊢
  have hKa:Kp F w (w1.alloc (.cells #[str s] 9)):=Kp.nw hK ka
  have hGa:Gr F Fi w (w1.alloc (.cells #[str s] 9)):=Gr.wide hG (Nat.le_refl _) ka.size
  by_cases h0:e = 0
  ·subst h0
   have hmz:=hmz rfl
   rw [if_neg (fun h => h rfl)] at hst
   obtain ⟨ok,r,z,ptr,Fs,hM⟩:=id (hD.nw ka)
   have g1:=hM.blk.cell 1
   have hlk:=lookup_mp K hmt (z:=.pointer none) (w:=w1.alloc (.cells #[str s] 9)) rfl hM.mp s false
   cases hx:tLook Di.fs s with
   | none =>
    have hm1:Mf ptr Di.fs s = none:=by simp [Mf,hx]
    rw [hm1] at hlk
    rw [hx] at hst
    simp -dsimp [go_sem,g1,hlk]
    rw [hE]
    simp only [dEach,hst]
    exact ⟨rfl,Fi,hD.nw ka,hGa,hKa⟩
   | some x =>
    have hm1:Mf ptr Di.fs s = some (.pointer (some ⟨ptr s,0,none⟩)):=by simp [Mf,hx]
    rw [hm1] at hlk
    rw [hx] at hst
    have hQa:=hQ Fi Fi _ _ hQi (ka.kp Fi) fun k h => .inl h
    simp -dsimp [go_sem,g1,hlk,hcv]
    refine call (hcl Di s x Fi _ r z ptr Fs ok hM hQa hx) ?_
    rintro v w3 ⟨hleft,F3,hD3,hG3,hK3⟩
    have hQ3:=hQ _ _ _ _ hQa hK3 hG3
    simp -dsimp [go_sem]
    refine call (done_spec g _ _ _ hD3 (by rw [hleft]; exact hmz)) ?_
    rintro v w4 ⟨rfl,hD4,hk4⟩
    have hF3g:F3 g:=by
     obtain ⟨_,_,_,_,_,h⟩:=hD3
     exact h.fg
    have hK4:Kp F3 w3 w4:=hk4.mono fun j _ (e:j = g) => e ▸ hF3g
    have hQ4:=hQ _ F3 _ _ hQ3 hK4 fun k h => .inl h
    have hk1:IntKind.i64.wrap ((i:Int) + 1) = ((i + 1:Nat):Int):=w64 (by omega) (by omega)
    have hE4:dEach f D ns = dEach f (f Di s x).done (ns.drop (i + 1)):=by
     rw [hE]
     simp only [dEach,hst]
     rw [if_neg (fun h => h rfl)]
    obtain ⟨k1,hk1'⟩:∃ k1,k1 = i + 1:=⟨_,rfl⟩
    rw [← hk1'] at hk1 hE4
    simp -dsimp [go_sem,s15,hk1]
    have hG13:=Gr.trans hGa hG3 hKa.size hK3.size
    exact ⟨⟨k1,_,F3,by omega,rfl,hE4,hD4,hQ4,Gr.wide hG13 (Nat.le_refl _) hk4.size,(Kp.gr hKa hGa hK3).gr hG13 hK4⟩,by simp [intOf]; omega⟩
  ·have h0':((e:Int) != 0) = true:=by simp; omega
   rw [if_pos h0] at hst
   simp -dsimp [go_sem,h0']
   rw [hE]
   simp only [dEach,hst]
   rw [if_pos h0]
   exact ⟨rfl,Fi,hD.nw ka,hGa,hKa⟩
 ·obtain rfl:i = ns.length:=by omega
  rw [List.drop_length] at hE
  simp -dsimp [go_sem]
  rw [hE]
  exact ⟨rfl,Fi,hD,hG,hK⟩
/-- A file's own block has turned, or what it reads of its bytes. -/
theorem DkM.reset {w w':World} {g:Nat} {D:Dsk} {F:Nat → Prop} {r:Nat} {z:Int} {ptr:Nm → Nat} {Fs:Nm → Nat → Prop} (ok:D.Ok) (h:DkM w g D F r z ptr Fs) {s:Nm} {x:Fil} (hx:tLook D.fs s = some x) (f:Fil) (v:Value) (G:Nat → Prop)
  (hk:Kp (At (ptr s)) w w') (hb:Blk w' (ptr s) 137 #[v,i64 f.l]) (hB:Bf w' v f.b G) (hG:∀ k,G k → Fs s k) (hn:¬ G (ptr s)) (h1:f.l ≤ f.b.length) (h2:f.b.length ≤ x.b.length) :
  ∃ F',Dk w' g { D with fs:=tLay D.fs s f } F' ∧ Gr F F' w w' ∧ Kp F w w':=by
 have hm1:Mf ptr D.fs s = some (.pointer (some ⟨ptr s,0,none⟩)):=by simp [Mf,hx]
 have hps:Fs s (ptr s):=by
  obtain ⟨u,G',_,_,_,hin,_⟩:=h.files s x hx
  exact hin _ (.inl rfl)
 have hrp:r ≠ ptr s:=fun e => (h.inn s r (e ▸ hps)).2.2 rfl
 have hu:=ok.used
 exact ⟨_,Dk.turned ok h s f (ptr s) (fun k => k = ptr s ∨ G k) (hk.mono fun i _ (e:i = ptr s) => .inl (e ▸ hps)) (by rw [put_self hm1]; exact h.mp.kp hk hrp)
  ⟨v,G,hb,hB,hn,fun k h => h,fun k hk => hk.elim (fun e => e ▸ hb.lt) (hB.lt k)⟩ (fun k hk => .inl (hk.elim (fun e => e ▸ hps) (hG k))) h1 (by rw [hx]; show D.used + f.b.length ≤ D.room + x.b.length; omega) (by rw [hx]; intro h; cases h) (ok.names s x hx)⟩
theorem sync1 (g:Nat):DoesF 160 #[] fSync g (fun _ _ => True):=by
 intro D s x F w r z ptr Fs ok h _ hx
 obtain ⟨u,G,hb,hBf,hnG,hin,hlt⟩:=h.files s x hx
 obtain ⟨A,c,rfl,ho,ho1,ho2⟩:=id hBf
 have h0:=hb.cell 0
 have h1:=hb.cell 1
 have hf:=hb.frozen 1
 refine enter Tryz.mixed Tryz.func160 rfl (by kernel_rfl) ?_
 simp -dsimp [go_sem,h0,h1,hf]
 have hset:Kp (At (ptr s)) w (w.setCell ⟨ptr s,1,none⟩ (i64 x.b.length)):=(Kp.refl _ _).setCell_at _ _
 exact ⟨rfl,h.reset ok hx ⟨x.b,x.b.length⟩ _ G hset (Blk.set0 hb _ _ rfl) (hBf.kp hset fun i hi (e:i = ptr s) => hnG (e ▸ hi)) (fun k hk => hin _ (.inr hk)) hnG (Nat.le_refl _) (Nat.le_refl _)⟩
theorem Mf_gone (ptr:Nm → Nat) {fs:List (Nm × Fil)} (hs:Srt fs) (s:Nm):Mf ptr (tGone fs s) = cutM (Mf ptr fs) s:=by
 funext t
 simp only [Mf,cutM,tLook_gone hs]
 split
 ·rfl
 ·rfl
theorem Dsk.Ok.rem {D:Dsk} (h:D.Ok) (s:Nm):Dsk.Ok { D with fs:=tGone D.fs s }:=by
 have hs:=sumv_gone D.fs (fun f:Fil => f.b.length) s
 have hu:D.used = sumv (fun f:Fil => f.b.length) D.fs:=rfl
 have hused:=h.used
 have hl:=gone_len D.fs s
 have hm:=h.many
 refine ⟨h.srt.tGone s,h.room,by unfold Dsk.used; simp only; omega,?_,fun t x hx => ?_,h.left,fun t x hx => ?_⟩
 ·simp only
  rw [hl]
  split <;> omega
 ·simp only [tLook_gone h.srt] at hx
  split at hx
  ·cases hx
  ·exact h.lasts t x hx
 ·simp only [tLook_gone h.srt] at hx
  split at hx
  ·cases hx
  ·exact h.names t x hx
theorem remove1 (g bx:Nat):DoesF 208 #[.pointer (some ⟨bx,0,none⟩)] fRemove g (fun F w => w.cell? ⟨bx,0,none⟩ = some (.pointer (some ⟨g,0,none⟩)) ∧ ¬ F bx):=by
 intro D s x F w r z ptr Fs ok h hq hx
 obtain ⟨hq,_⟩:=hq
 have K:KeyS Tryz.prog 9 (fun s:Nm => str s):=keyL (by kernel_rfl)
 have hmt:Tryz.prog.underlying 129 = some (.map 9 135):=by kernel_rfl
 have h1:=h.blk.cell 1
 obtain ⟨w1,hdel,hm1,hk1⟩:=delete_mp (ty:=0) K hmt h.mp s
 have hdel':deleteS Tryz.prog #[129,9] 0 #[.map (some r),str s] w = .ok (.tuple #[]) w1:=hdel
 refine enter Tryz.mixed Tryz.func208 rfl (by kernel_rfl) ?_
 simp -dsimp [go_sem,hq,h1,hdel']
 have hng:∀ i,(∃ t,Fs t i) ∨ i = g → i ≠ r:=fun i hi e => by
  rcases hi with ⟨t,ht⟩ | hi
  ·exact (h.inn t i ht).2.2 e
  ·exact h.ne (hi.symm.trans e)
 refine ⟨rfl,F,⟨ok.rem s,r,z,ptr,Fs,h.blk.kp hk1 (hng g (.inr rfl)),h.left,by rw [show (fRemove D s x).fs = tGone D.fs s from rfl,Mf_gone ptr ok.srt]; exact hm1,fun t y hy => ?_,h.apart,h.inn,h.ne,h.fg,h.fr,fun i hi => Nat.lt_of_lt_of_le (h.lt i hi) hk1.size⟩,fun k h => .inl h,hk1.mono fun i _ (e:i = r) => e ▸ h.fr⟩
 rw [show (fRemove D s x).fs = tGone D.fs s from rfl,tLook_gone ok.srt] at hy
 split at hy
 ·cases hy
 ·exact (h.files t y hy).kp hk1 fun i hi e => hng i (.inl ⟨t,hi⟩) e
theorem dsync_spec (ns:List Nm) (A:Option Addr) (c g:Nat) (D:Dsk) (F:Nat → Prop) (w:World) (h:Dk w g D F) (hr:Rd w A (ns.map fun s => str s)) (hA:Ofl A (ns.map fun s => str s) F) (hl:ns.length ≤ 140737488355328) (hs:∀ s ∈ ns,s.length ≤ 9223372036854775807) :
  Cal Tryz.prog 100 #[.pointer (some ⟨g,0,none⟩),.slice A ns.length c] w fun v w' => v = i64 (dEach fSync D ns).2 ∧ ∃ F',Dk w' g (dEach fSync D ns).1 F' ∧ Gr F F' w w' ∧ Kp F w w':=by
 refine enter Tryz.mixed Tryz.func100 rfl (by kernel_rfl) ?_
 simp -dsimp [go_sem]
 refine call (each_spec 160 (by kernel_rfl) #[] fSync (fun _ _ => True) g (fun _ _ _ _ _ _ _ => trivial) (sync1 g) ns A c D F w h trivial hr hA hl hs) ?_
 rintro v w' ⟨rfl,h⟩
 simp -dsimp [go_sem]
 exact h
theorem dremove_spec (ns:List Nm) (A:Option Addr) (c g:Nat) (D:Dsk) (F:Nat → Prop) (w:World) (h:Dk w g D F) (hr:Rd w A (ns.map fun s => str s)) (hA:Ofl A (ns.map fun s => str s) F) (hl:ns.length ≤ 140737488355328) (hs:∀ s ∈ ns,s.length ≤ 9223372036854775807) :
  Cal Tryz.prog 171 #[.pointer (some ⟨g,0,none⟩),.slice A ns.length c] w fun v w' => v = i64 (dEach fRemove D ns).2 ∧ ∃ F',Dk w' g (dEach fRemove D ns).1 F' ∧ Gr F F' w w' ∧ Kp F w w':=by
 refine enter Tryz.mixed Tryz.func171 rfl (by kernel_rfl) ?_
 simp -dsimp [go_sem]
 have ka:Nw w (w.alloc (.cells #[.pointer (some ⟨g,0,none⟩)] 44)):=(Kp.refl _ _).alloc _
 have hba:Blk (w.alloc (.cells #[.pointer (some ⟨g,0,none⟩)] 44)) w.heap.size 44 #[.pointer (some ⟨g,0,none⟩)]:=Blk.new _ _ _
 have hc:=hba.cell 0
 have hlt:=h.lt
 have hcs:(w.alloc (.cells #[.pointer (some ⟨g,0,none⟩)] 44)).cell? ⟨w.heap.size,0,none⟩ = some (.pointer (some ⟨g,0,none⟩)):=by rw [hc]; rfl
 refine call (each_spec 208 (by kernel_rfl) #[.pointer (some ⟨w.heap.size,0,none⟩)] fRemove (fun F w' => w'.cell? ⟨w.heap.size,0,none⟩ = some (.pointer (some ⟨g,0,none⟩)) ∧ ¬ F w.heap.size) g ?_ (remove1 g _) ns A c D F _ (h.nw ka) ⟨hcs,fun e => Nat.lt_irrefl _ (hlt _ e)⟩ (hr.nw ka) hA hl hs) ?_
 ·intro F1 F2 a b ⟨h1,h2⟩ hk hG
  refine ⟨hk.cell_some h1 h2,fun e => ?_⟩
  rcases hG _ e with e | e
  ·exact h2 e
  ·have:=World.block_lt_of_cell? a _ h1
   have h3:w.heap.size < a.heap.size:=this
   omega
 ·rintro v w' ⟨rfl,F',h1,h2,h3⟩
  simp -dsimp [go_sem]
  exact ⟨F',h1,Gr.wide h2 ka.size (Nat.le_refl _),(ka.kp F).trans h3 fun _ _ h => h⟩
theorem _root_.Go.Vc.Ow.cap {w:World} {e:TypeId} {sz n c c':Nat} {A:Option Addr} {xs:List Value} (h:Ow w e sz A n c xs) (h1:n ≤ c') (h2:c' ≤ c):Ow w e sz A n c' xs:=by
 obtain ⟨g1,g2,g3,g4⟩:=h
 refine ⟨g1,h1,Nat.le_trans h2 g3,?_⟩
 rcases g4 with ⟨rfl,rfl⟩ | ⟨g,cur,rfl,hg,h5,h6⟩
 ·exact .inl ⟨rfl,by omega⟩
 ·exact .inr ⟨g,cur,rfl,hg,Nat.le_trans (Nat.mul_le_mul_right _ h2) h5,h6⟩
def dRead (D:Dsk) (s:Nm):List UInt8 × Nat:=match tLook D.fs s with
 | none => ([],7)
 | some x => (x.b,0)
theorem dRead_len {D:Dsk} (ok:D.Ok) (a:Nm):(dRead D a).1.length ≤ 1073741824:=by
 have h1:=ok.used
 have h2:=ok.room
 unfold dRead
 cases hl:tLook D.fs a with
 | none => simp
 | some f =>
  have h3:=sumv_ge (fun f:Fil => f.b.length) hl
  have h5:D.used = sumv (fun f:Fil => f.b.length) D.fs:=rfl
  simp only
  omega
theorem dread_spec (s:Nm) (g:Nat) (D:Dsk) (F:Nat → Prop) (w:World) (h:Dk w g D F) :
  Cal Tryz.prog 167 #[.pointer (some ⟨g,0,none⟩),str s] w fun v w' => Nw w w' ∧ ∃ u,v = .tuple #[u,i64 (dRead D s).2] ∧ Bs w' u (dRead D s).1 w.heap.size:=by
 obtain ⟨ok,r,z,ptr,Fs,h⟩:=h
 have K:KeyS Tryz.prog 9 (fun s:Nm => str s):=keyL (by kernel_rfl)
 have hmt:Tryz.prog.underlying 129 = some (.map 9 135):=by kernel_rfl
 have g1:=h.blk.cell 1
 have hlk:=lookup_mp K hmt (z:=.pointer none) (w:=w) rfl h.mp s false
 refine enter Tryz.mixed Tryz.func167 rfl (by kernel_rfl) ?_
 cases hx:tLook D.fs s with
 | none =>
  have e:dRead D s = ([],7):=by unfold dRead; rw [hx]
  have hm1:Mf ptr D.fs s = none:=by simp [Mf,hx]
  rw [hm1] at hlk
  simp -dsimp [go_sem,g1,hlk]
  rw [e]
  exact ⟨Kp.refl _ _,_,⟨rfl,rfl⟩,Bs.nil _ _⟩
 | some x =>
  have e:dRead D s = (x.b,0):=by unfold dRead; rw [hx]
  have hm1:Mf ptr D.fs s = some (.pointer (some ⟨ptr s,0,none⟩)):=by simp [Mf,hx]
  rw [hm1] at hlk
  obtain ⟨u,G,hb,hBf,hnG,hin,hlt⟩:=h.files s x hx
  obtain ⟨A,c,rfl,ho,ho1,ho2⟩:=id hBf
  have h0:=hb.cell 0
  have hxu:x.b.length ≤ D.used:=sumv_ge (fun f:Fil => f.b.length) hx
  have:=ok.used
  have:=ok.room
  simp -dsimp [go_sem,g1,hlk,h0]
  refine call (clone_spec A c x.b w ho.rd (by omega)) ?_
  rintro v w1 ⟨hB,hk⟩
  simp -dsimp [go_sem]
  rw [e]
  exact ⟨hk,v,⟨rfl,rfl⟩,hB⟩
def dRename (D:Dsk) (a b:Nm):Dsk × Nat:=if mayL D [a,b] ≠ 0 then (D,mayL D [a,b]) else match tLook D.fs a with
 | none => (D,7)
 | some x => (Dsk.done { D with fs:=tLay (tGone D.fs a) b x },0)
theorem sumv_swap {fs:List (Nm × Fil)} (hs:Srt fs) (n:Fil → Nat) {a b:Nm} {x:Fil} (hx:tLook fs a = some x):sumv n (tLay (tGone fs a) b x) ≤ sumv n fs:=by
 have h1:=sumv_gone fs n a
 have h2:=sumv_lay (hs.tGone a) n b x
 rw [hx] at h1
 simp only [Option.map_some,Option.getD_some] at h1
 omega
theorem Dsk.Ok.ren {D:Dsk} (h:D.Ok) (a b:Nm) (x:Fil) (hx:tLook D.fs a = some x) (hn:b.length ≤ 64):Dsk.Ok { D with fs:=tLay (tGone D.fs a) b x }:=by
 have hs:=sumv_swap h.srt (fun f:Fil => f.b.length) (b:=b) hx
 have hu:D.used = sumv (fun f:Fil => f.b.length) D.fs:=rfl
 have hused:=h.used
 have hl:=gone_len D.fs a
 have hl2:=lay_len (h.srt.tGone a) b x
 have hm:=h.many
 have hpos:=List.length_pos_of_mem (tLook_some hx)
 rw [hx] at hl
 simp only [Option.isSome_some,if_true] at hl
 refine ⟨(h.srt.tGone a).tLay b x,h.room,by unfold Dsk.used; simp only; omega,?_,fun t y hy => ?_,h.left,fun t y hy => ?_⟩
 ·simp only
  rw [hl2]
  split <;> omega
 ·simp only [tLook_lay] at hy
  split at hy
  ·cases hy
   exact h.lasts a _ hx
  ·rw [tLook_gone h.srt] at hy
   split at hy
   ·cases hy
   ·exact h.lasts t y hy
 ·simp only [tLook_lay] at hy
  split at hy
  ·rename_i e; rw [e]; exact hn
  ·rw [tLook_gone h.srt] at hy
   split at hy
   ·cases hy
   ·exact h.names t y hy
theorem drename_spec (a b:Nm) (g:Nat) (D:Dsk) (F:Nat → Prop) (w:World) (h:Dk w g D F) (ha:a.length ≤ 9223372036854775807) (hb:b.length ≤ 9223372036854775807) :
  Cal Tryz.prog 202 #[.pointer (some ⟨g,0,none⟩),str a,str b] w fun v w' => v = i64 (dRename D a b).2 ∧ Dk w' g (dRename D a b).1 F ∧ Kp F w w':=by
 have K:KeyS Tryz.prog 9 (fun s:Nm => str s):=keyL (by kernel_rfl)
 have hmt:Tryz.prog.underlying 129 = some (.map 9 135):=by kernel_rfl
 refine enter Tryz.mixed Tryz.func202 rfl (by kernel_rfl) ?_
 simp -dsimp [go_sem]
 have ka:Nw w (w.alloc (.cells #[str a,str b] 9)):=(Kp.refl _ _).alloc _
 refine call (may_spec [a,b] (some ⟨w.heap.size,0,none⟩) 2 g D F _ (h.nw ka) (Rd.fresh rfl rfl) (by simp) (by simp; omega)) ?_
 rintro v w1 ⟨rfl,rfl⟩
 have hst:dRename D a b = if mayL D [a,b] ≠ 0 then (D,mayL D [a,b]) else match tLook D.fs a with
   | none => (D,7)
   | some x => (Dsk.done { D with fs:=tLay (tGone D.fs a) b x },0):=rfl
 have hmz:=@mayL_ok D [a,b]
 obtain ⟨e,he⟩:∃ e,e = mayL D [a,b]:=⟨_,rfl⟩
 rw [← he] at hst hmz ⊢
 by_cases h0:e = 0
 ·subst h0
  have hmz:=hmz rfl
  rw [if_neg (fun h => h rfl)] at hst
  obtain ⟨ok,r,z,ptr,Fs,hM⟩:=id (h.nw ka)
  have g1:=hM.blk.cell 1
  have hlk:=lookup_mp K hmt (z:=.pointer none) (w:=w.alloc (.cells #[str a,str b] 9)) rfl hM.mp a false
  cases hx:tLook D.fs a with
  | none =>
   have hm1:Mf ptr D.fs a = none:=by simp [Mf,hx]
   rw [hm1] at hlk
   rw [hx] at hst
   simp -dsimp [go_sem,g1,hlk]
   rw [hst]
   exact ⟨rfl,h.nw ka,ka.kp F⟩
  | some x =>
   have hm1:Mf ptr D.fs a = some (.pointer (some ⟨ptr a,0,none⟩)):=by simp [Mf,hx]
   rw [hm1] at hlk
   rw [hx] at hst
   obtain ⟨w2,hdel,hm2,hk2⟩:=delete_mp (ty:=0) K hmt hM.mp a
   have hdel':deleteS Tryz.prog #[129,9] 0 #[.map (some r),str a] (w.alloc (.cells #[str a,str b] 9)) = .ok (.tuple #[]) w2:=hdel
   obtain ⟨w3,hup,hm3,hk3⟩:=update_mp K hmt hm2 b (.pointer (some ⟨ptr a,0,none⟩))
   have hk23:Kp (At r) (w.alloc (.cells #[str a,str b] 9)) w3:=hk2.trans hk3 fun _ _ h => h
   have hb2:=hM.blk.kp hk2 (fun e => hM.ne e)
   have g12:=hb2.cell 1
   simp -dsimp [go_sem,g1,hlk,hdel',g12,hup]
   have hng:∀ i,(∃ t,Fs t i) ∨ i = g → ¬ At r i:=fun i hi (e:i = r) => by
    rcases hi with ⟨t,ht⟩ | hi
    ·exact (hM.inn t i ht).2.2 e
    ·exact hM.ne (hi.symm.trans e)
   have hM3:DkM w3 g { D with fs:=tLay (tGone D.fs a) b x } F r z (fun t => if t = b then ptr a else ptr t) (fun t => if t = b then Fs a else if t = a then fun _ => False else Fs t):=by
    refine ⟨hM.blk.kp hk23 (hng g (.inr rfl)),hM.left,?_,fun t y hy => ?_,fun t u k htu ht hu => ?_,fun t k ht => ?_,hM.ne,hM.fg,hM.fr,fun i hi => Nat.lt_of_lt_of_le (hM.lt i hi) hk23.size⟩
    ·rw [Mf_lay,Mf_gone ptr ok.srt]
     exact hm3
    ·simp only [tLook_lay] at hy
     by_cases htb:t = b
     ·rw [if_pos htb] at hy
      cases hy
      simp only [if_pos htb]
      exact (hM.files a _ hx).kp hk23 fun i hi => hng i (.inl ⟨a,hi⟩)
     ·rw [if_neg htb,tLook_gone ok.srt] at hy
      by_cases hta:t = a
      ·rw [if_pos hta] at hy; cases hy
      ·rw [if_neg hta] at hy
       simp only [if_neg htb,if_neg hta]
       exact (hM.files t y hy).kp hk23 fun i hi => hng i (.inl ⟨t,hi⟩)
    ·by_cases htb:t = b
     ·rw [if_pos htb] at ht
      by_cases hub:u = b
      ·exact htu (htb.trans hub.symm)
      ·rw [if_neg hub] at hu
       by_cases hua:u = a
       ·rw [if_pos hua] at hu; exact hu
       ·rw [if_neg hua] at hu
        exact hM.apart a u k (fun e => hua e.symm) ht hu
     ·rw [if_neg htb] at ht
      by_cases hta:t = a
      ·rw [if_pos hta] at ht; exact ht
      ·rw [if_neg hta] at ht
       by_cases hub:u = b
       ·rw [if_pos hub] at hu
        exact hM.apart t a k hta ht hu
       ·rw [if_neg hub] at hu
        by_cases hua:u = a
        ·rw [if_pos hua] at hu; exact hu
        ·rw [if_neg hua] at hu
         exact hM.apart t u k htu ht hu
    ·by_cases htb:t = b
     ·rw [if_pos htb] at ht
      exact hM.inn a k ht
     ·rw [if_neg htb] at ht
      by_cases hta:t = a
      ·rw [if_pos hta] at ht; exact ht.elim
      ·rw [if_neg hta] at ht
       exact hM.inn t k ht
   refine call (done_spec g _ F w3 ⟨ok.ren a b x hx (mayL_names he.symm b (by simp)),r,z,_,_,hM3⟩ hmz) ?_
   rintro v w4 ⟨rfl,hD4,hk4⟩
   simp -dsimp [go_sem]
   rw [hst]
   exact ⟨rfl,hD4,((ka.kp F).trans hk23 fun i _ (e:i = r) => e ▸ hM.fr).trans hk4 fun i _ (e:i = g) => e ▸ hM.fg⟩
 ·have h0':((e:Int) != 0) = true:=by simp; omega
  rw [if_pos h0] at hst
  simp -dsimp [go_sem,h0']
  rw [hst]
  exact ⟨rfl,h.nw ka,ka.kp F⟩
def dTrunc (D:Dsk) (s:Nm) (n:Int):Dsk × Nat:=if mayL D [s] ≠ 0 then (D,mayL D [s]) else match tLook D.fs s with
 | none => (D,7)
 | some x => if n < 0 ∨ (x.b.length:Int) < n then (D,1) else (Dsk.done { D with fs:=tLay D.fs s ⟨x.b.take n.toNat,min x.l n.toNat⟩ },0)
theorem dtrunc_spec (s:Nm) (n:Int) (g:Nat) (D:Dsk) (F:Nat → Prop) (w:World) (h:Dk w g D F) (hs:s.length ≤ 9223372036854775807) :
  Cal Tryz.prog 170 #[.pointer (some ⟨g,0,none⟩),str s,i64 n] w fun v w' => v = i64 (dTrunc D s n).2 ∧ ∃ F',Dk w' g (dTrunc D s n).1 F' ∧ Gr F F' w w' ∧ Kp F w w':=by
 have K:KeyS Tryz.prog 9 (fun s:Nm => str s):=keyL (by kernel_rfl)
 have hmt:Tryz.prog.underlying 129 = some (.map 9 135):=by kernel_rfl
 refine enter Tryz.mixed Tryz.func170 rfl (by kernel_rfl) ?_
 simp -dsimp [go_sem]
 have ka:Nw w (w.alloc (.cells #[str s] 9)):=(Kp.refl _ _).alloc _
 refine call (may_spec [s] (some ⟨w.heap.size,0,none⟩) 1 g D F _ (h.nw ka) (Rd.fresh rfl rfl) (by simp) (by simpa using hs)) ?_
 rintro v w1 ⟨rfl,rfl⟩
 have hst:dTrunc D s n = if mayL D [s] ≠ 0 then (D,mayL D [s]) else match tLook D.fs s with
   | none => (D,7)
   | some x => if n < 0 ∨ (x.b.length:Int) < n then (D,1) else (Dsk.done { D with fs:=tLay D.fs s ⟨x.b.take n.toNat,min x.l n.toNat⟩ },0):=rfl
 have hmz:=@mayL_ok D [s]
 obtain ⟨e,he⟩:∃ e,e = mayL D [s]:=⟨_,rfl⟩
 rw [← he] at hst hmz ⊢
 by_cases h0:e = 0
 ·subst h0
  have hmz:=hmz rfl
  rw [if_neg (fun h => h rfl)] at hst
  obtain ⟨ok,r,z,ptr,Fs,hM⟩:=id (h.nw ka)
  have g1:=hM.blk.cell 1
  have hlk:=lookup_mp K hmt (z:=.pointer none) (w:=w.alloc (.cells #[str s] 9)) rfl hM.mp s false
  have hda:=h.nw ka
  generalize w.alloc (.cells #[str s] 9) = wa at *
  cases hx:tLook D.fs s with
  | none =>
   have hm1:Mf ptr D.fs s = none:=by simp [Mf,hx]
   rw [hm1] at hlk
   rw [hx] at hst
   simp -dsimp [go_sem,g1,hlk]
   rw [hst]
   exact ⟨rfl,F,hda,fun k h => .inl h,ka.kp F⟩
  | some x =>
   have hm1:Mf ptr D.fs s = some (.pointer (some ⟨ptr s,0,none⟩)):=by simp [Mf,hx]
   rw [hm1] at hlk
   rw [hx] at hst
   simp only at hst
   obtain ⟨u,G,hb,hBf,hnG,hin,hlt⟩:=hM.files s x hx
   obtain ⟨A,c,rfl,ho,ho1,ho2⟩:=id hBf
   have f0:=hb.cell 0
   by_cases h1:n < 0
   ·rw [if_pos (.inl h1)] at hst
    simp -dsimp [go_sem,g1,hlk,h1]
    rw [hst]
    exact ⟨rfl,F,hda,fun k h => .inl h,ka.kp F⟩
   ·by_cases h2:(x.b.length:Int) < n
    ·rw [if_pos (.inr h2)] at hst
     simp -dsimp [go_sem,g1,hlk,h1,f0,h2]
     rw [hst]
     exact ⟨rfl,F,hda,fun k h => .inl h,ka.kp F⟩
    ·rw [if_neg (by omega)] at hst
     obtain ⟨N,rfl⟩:∃ N:Nat,n = N:=⟨n.toNat,by omega⟩
     rw [Int.toNat_natCast] at hst
     have h2n:¬ x.b.length < N:=by omega
     have hNc:N ≤ c:=by have:=ho.2.1; omega
     have hNc':(N:Int) ≤ (c:Int):=by omega
     have hfr0:=hb.frozen 0
     have hb1:=Blk.set0 hb 0 (.slice A N N) rfl
     have f1:=hb1.cell 1
     have hfr1:=hb1.frozen 1
     have hmin:min (x.l:Int) (N:Int) = ((min x.l N:Nat):Int):=by omega
     obtain ⟨m,hm⟩:∃ m,m = min x.l N:=⟨_,rfl⟩
     rw [← hm] at hmin hst
     simp -dsimp [go_sem,g1,hlk,h1,f0,h2,h2n,hNc,hNc',hfr0,f1,hfr1,hmin]
     have hset:Kp (At (ptr s)) wa ((wa.setCell ⟨ptr s,0,none⟩ (.slice A N N)).setCell ⟨ptr s,1,none⟩ (i64 m)):=((Kp.refl _ _).setCell_at _ _).setCell_at _ _
     have hB4:Bf wa (.slice A N N) (x.b.take N) G:=by
      have h1:=(ho.take (m:=N) (by omega)).cap (Nat.le_refl _) hNc
      rw [Nat.mul_one,← List.map_take] at h1
      have hl:(x.b.take N).length = N:=by rw [List.length_take]; omega
      exact ⟨A,N,by rw [hl],by rw [hl]; exact h1,ho1,ho2⟩
     have hl:(x.b.take N).length = N:=by rw [List.length_take]; omega
     obtain ⟨F',hD',hG',hK'⟩:=hM.reset ok hx ⟨x.b.take N,m⟩ _ G hset (Blk.set0 hb1 1 (i64 m) rfl) (hB4.kp hset fun i hi (e:i = ptr s) => hnG (e ▸ hi)) (fun k hk => hin _ (.inr hk)) hnG (by show m ≤ (x.b.take N).length; omega) (by show (x.b.take N).length ≤ x.b.length; omega)
     refine call (done_spec g _ F' _ hD' hmz) ?_
     rintro v w4 ⟨rfl,hD4,hk4⟩
     have hF'g:F' g:=by
      obtain ⟨_,_,_,_,_,h⟩:=hD'
      exact h.fg
     simp -dsimp [go_sem]
     rw [hst]
     exact ⟨rfl,F',hD4,Gr.wide hG' ka.size hk4.size,((ka.kp F).trans hK' fun _ _ h => h).trans hk4 fun i _ (e:i = g) => e ▸ hM.fg⟩
 ·have h0':((e:Int) != 0) = true:=by simp; omega
  rw [if_pos h0] at hst
  simp -dsimp [go_sem,h0']
  rw [hst]
  exact ⟨rfl,F,h.nw ka,fun k h => .inl h,ka.kp F⟩
def crcBit (v:Nat):Nat:=if v % 2 = 1 then (v / 2) ^^^ 3988292384 else v / 2
def crcBits:Nat → Nat → Nat
 | 0,v => v
 | n + 1,v => crcBits n (crcBit v)
def crcByte (v:Nat) (c:UInt8):Nat:=crcBits 8 (v ^^^ c.toNat)
def crcRow (v:Nat) (l:List UInt8):Nat:=l.foldl crcByte v
/-- The check sum of bytes. -/
def sumL (l:List UInt8):Nat:=4294967295 - crcRow 4294967295 l
theorem crcBit_lt {v:Nat} (h:v < 4294967296):crcBit v < 4294967296:=by
 unfold crcBit
 split
 ·exact Nat.xor_lt_two_pow (n:=32) (by omega) (by omega)
 ·omega
theorem crcBits_succ (n v:Nat):crcBits (n + 1) v = crcBit (crcBits n v):=by
 induction n generalizing v with
 | zero => rfl
 | succ n ih => exact ih (crcBit v)
theorem crcRow_append (v:Nat) (a b:List UInt8):crcRow v (a ++ b) = crcRow (crcRow v a) b:=List.foldl_append ..
theorem xor_ones {v:Nat} (h:v < 4294967296):4294967295 ^^^ v = 4294967295 - v:=by
 have h1:(BitVec.allOnes 32 ^^^ BitVec.ofNat 32 v).toNat = 2 ^ 32 - 1 - (BitVec.ofNat 32 v).toNat:=by rw [BitVec.allOnes_xor,BitVec.toNat_not]
 rw [BitVec.toNat_xor,BitVec.toNat_allOnes,BitVec.toNat_ofNat,Nat.mod_eq_of_lt (by omega)] at h1
 exact h1
theorem crc_step (v:Nat) (h:v < 4294967296):bits .xor .u32 ((v:Int) / 2) (bits .and .u32 3988292384 (IntKind.u32.wrap (-bits .and .u32 (v:Int) 1))) = (crcBit v:Int):=by
 have e1:bits .and .u32 (v:Int) 1 = ((v % 2:Nat):Int):=by
  rw [show (1:Int) = ((1:Nat):Int) from rfl,u32_and_nat v 1 h (by omega),nat_mask1]
 have e0:(v:Int) / 2 = ((v / 2:Nat):Int):=by omega
 rw [e1,e0]
 unfold crcBit
 by_cases hb:v % 2 = 1
 ·rw [hb,if_pos rfl]
  have e2:IntKind.u32.wrap (-((1:Nat):Int)) = ((4294967295:Nat):Int):=by rw [IntKind.wrap_u32']; omega
  rw [e2,show (3988292384:Int) = ((3988292384:Nat):Int) from rfl,u32_and_nat _ _ (by omega) (by omega),show (3988292384 &&& 4294967295:Nat) = 3988292384 by decide,u32_xor_nat _ _ (by omega) (by omega)]
 ·have hb:v % 2 = 0:=by omega
  rw [hb,if_neg (by omega)]
  have e2:IntKind.u32.wrap (-((0:Nat):Int)) = ((0:Nat):Int):=by rw [IntKind.wrap_u32']; omega
  rw [e2,show (3988292384:Int) = ((3988292384:Nat):Int) from rfl,u32_and_nat _ _ (by omega) (by omega),Nat.and_zero,u32_xor_nat _ _ (by omega) (by omega),Nat.xor_zero]
theorem sum_spec (ps:List (List UInt8)) (A:Option Addr) (c:Nat) (w:World) (S:Nat → Prop) (hr:Brs w A ps S) (hl:ps.length ≤ 140737488355328) (hl2:∀ p ∈ ps,p.length ≤ 140737488355328) :
  Cal Tryz.prog 155 #[.slice A ps.length c] w fun v w' => v = .int .u32 (sumL ps.flatten:Nat) ∧ w = w':=by
 obtain ⟨vs,hvl,hrd,hoA,hi⟩:=hr
 refine enter Tryz.mixed Tryz.func155 rfl (by kernel_rfl) ?_
 simp -dsimp [go_sem]
 refine loop [3,5,7,10,11,12,13,14,15,16,17,18,19,20,21,22,23,24,25,26,27,28,29,30,31,32,33,34,35] (by kernel_rfl)
  (fun f w' => Box2 (fun a b w' => ∃ k v:Nat,k ≤ ps.length ∧ a = i64 k ∧ b = .int .u32 v ∧ v < 4294967296 ∧ v = crcRow 4294967295 (ps.take k).flatten ∧ w = w') (f 10) (f 3) w') (fun f _ => ps.length - (intOf (f 10)).toNat) ⟨0,4294967295,by simp [upd,crcRow]⟩ ?_
 rintro f w' ⟨k,v,hk,f10,f3,hv,hv2,rfl⟩
 simp -dsimp [go_sem,f10,f3]
 refine cond_d (fun hlt => ?_) (fun hlt => ?_)
 ·have hlt:k < ps.length:=by omega
  obtain ⟨B,d,hvk,hrB,hoB,hd⟩:=hi k hlt
  obtain ⟨b,o,rfl,hcell⟩:=hrd k _ hvk
  have hpl:=hl2 _ (List.getElem_mem hlt)
  simp -dsimp [go_sem,f10,f3,hlt,hcell]
  refine loop [3,7,16,17,18,19,20,21,22,23,24,25,26,27,28,29,30,31,32,33,34] (by kernel_rfl)
   (fun f2 w' => Box2 (fun a b w' => ∃ j u:Nat,j ≤ ps[k].length ∧ a = i64 j ∧ b = .int .u32 u ∧ u < 4294967296 ∧ u = crcRow v (ps[k].take j) ∧ w = w') (f2 16) (f2 3) w') (fun f2 _ => ps[k].length - (intOf (f2 16)).toNat) ⟨0,v,by simp [upd,crcRow,f3,hv,mix]⟩ ?_
  rintro f2 w' ⟨j,u,hj,f16,f23,hu,hu2,rfl⟩
  simp -dsimp [go_sem,f16,f23]
  refine cond_d (fun hjl => ?_) (fun hjl => ?_)
  ·have hjl:j < ps[k].length:=by omega
   obtain ⟨b2,o2,rfl,hcell2⟩:=hrB j (u8 (ps[k][j])) (by simp [hjl])
   have hc:=UInt8.toNat_lt ps[k][j]
   have hx:bits .xor .u32 (u:Int) (IntKind.u32.wrap (ps[k][j].toNat:Int)) = ((u ^^^ ps[k][j].toNat:Nat):Int):=by
    rw [show IntKind.u32.wrap (ps[k][j].toNat:Int) = (ps[k][j].toNat:Int) by rw [IntKind.wrap_u32']; omega,u32_xor_nat _ _ hu (by omega)]
   have hxl:u ^^^ ps[k][j].toNat < 4294967296:=Nat.xor_lt_two_pow (n:=32) (by omega) (by omega)
   obtain ⟨x,hx'⟩:∃ x,x = u ^^^ ps[k][j].toNat:=⟨_,rfl⟩
   rw [← hx'] at hx hxl
   simp -dsimp [go_sem,f16,f23,hjl,hcell2,hx]
   refine loop [3,24,25,26,27,28,29,30,31,32,33] (by kernel_rfl)
    (fun f3 w' => Box2 (fun a b w' => ∃ i y:Nat,i ≤ 8 ∧ a = i64 i ∧ b = .int .u32 y ∧ y < 4294967296 ∧ y = crcBits i x ∧ w = w') (f3 24) (f3 3) w') (fun f3 _ => 8 - (intOf (f3 24)).toNat) ⟨0,x,by simp [upd,crcBits,hxl]⟩ ?_
   rintro f3 w' ⟨i,y,hi8,f24,f33,hy,hy2,rfl⟩
   simp -dsimp [go_sem,f24,f33]
   refine cond_d (fun hil => ?_) (fun hil => ?_)
   ·have hil:i < 8:=by omega
    have hst:=crc_step y hy
    have hcl:=crcBit_lt hy
    have hcs:crcBit y = crcBits (i + 1) x:=by rw [crcBits_succ,hy2]
    obtain ⟨z,hz⟩:∃ z,z = crcBit y:=⟨_,rfl⟩
    rw [← hz] at hst hcl hcs
    have hk1:IntKind.i64.wrap ((i:Int) + 1) = ((i + 1:Nat):Int):=w64 (by omega) (by omega)
    obtain ⟨k1,hk1'⟩:∃ k1,k1 = i + 1:=⟨_,rfl⟩
    rw [← hk1'] at hk1
    simp -dsimp [go_sem,f24,f33,hst,hk1]
    exact ⟨⟨k1,z,by omega,rfl,rfl,hcl,by rw [hk1',hcs],rfl⟩,by simp [intOf]; omega⟩
   ·obtain rfl:i = 8:=by omega
    have hk1:IntKind.i64.wrap ((j:Int) + 1) = ((j + 1:Nat):Int):=w64 (by omega) (by omega)
    obtain ⟨k1,hk1'⟩:∃ k1,k1 = j + 1:=⟨_,rfl⟩
    rw [← hk1'] at hk1
    simp -dsimp [go_sem,f16,f33,hk1]
    refine ⟨⟨k1,y,by omega,rfl,rfl,hy,?_,rfl⟩,by simp [intOf]; omega⟩
    rw [hk1',List.take_succ_eq_append_getElem hjl,crcRow_append,← hu2,hy2,hx']
    rfl
  ·obtain rfl:j = ps[k].length:=by omega
   have hk1:IntKind.i64.wrap ((k:Int) + 1) = ((k + 1:Nat):Int):=w64 (by omega) (by omega)
   obtain ⟨k1,hk1'⟩:∃ k1,k1 = k + 1:=⟨_,rfl⟩
   rw [← hk1'] at hk1
   simp -dsimp [go_sem,f10,f23,hk1]
   refine ⟨⟨k1,u,by omega,rfl,rfl,hu,?_,rfl⟩,by simp [intOf]; omega⟩
   rw [hk1',List.take_succ_eq_append_getElem hlt,List.flatten_append,crcRow_append,← hv2,hu2,List.take_length]
   simp
 ·obtain rfl:k = ps.length:=by omega
  simp -dsimp [go_sem,f3]
  show bits .xor .u32 ((4294967295:Nat):Int) (v:Int) = _
  rw [u32_xor_nat _ _ (by omega) hv,xor_ones hv,hv2,List.take_length]
  rfl
theorem crc_if (v:Nat) (h:v < 4294967296):(if bits .and .u32 (v:Int) 1 = 1 then bits .xor .u32 ((v:Int) / 2) 3988292384 else (v:Int) / 2) = (crcBit v:Int):=by
 rw [show (1:Int) = ((1:Nat):Int) from rfl,u32_and_nat _ _ h (by omega),show v &&& 1 = v % 2 from Nat.and_two_pow_sub_one_eq_mod v 1,show (v:Int) / 2 = ((v / 2:Nat):Int) by omega,show (3988292384:Int) = ((3988292384:Nat):Int) from rfl,u32_xor_nat _ _ (by omega) (by omega)]
 unfold crcBit
 by_cases h1:v % 2 = 1
 ·rw [if_pos h1,if_pos (by omega)]
 ·rw [if_neg h1,if_neg (by omega)]
theorem refSum_spec (l:List UInt8) (A:Option Addr) (c:Nat) (w:World) (hr:Rd w A (l.map u8)) (hl:l.length ≤ 140737488355328) :
  Cal Tryz.prog 181 #[.slice A l.length c] w fun v w' => v = .int .u32 (sumL l:Nat) ∧ w' = w:=by
 refine enter Tryz.mixed Tryz.func181 rfl (by kernel_rfl) ?_
 simp -dsimp [go_sem]
 refine loop [3,4,5,6,7,8,9,10,11,12,13,14,15,16,17,18,19,20,21,22,23,24,25,26,27,28,29,30] (by kernel_rfl)
  (fun f w' => Box2 (fun a b w' => ∃ k v:Nat,k ≤ l.length ∧ b = i64 k ∧ a = .int .u32 v ∧ v < 4294967296 ∧ v = crcRow 4294967295 (l.take k) ∧ w' = w) (f 3) (f 4) w') (fun f _ => l.length - (intOf (f 4)).toNat)
  ⟨0,4294967295,Nat.zero_le _,rfl,rfl,by omega,rfl,rfl⟩ ?_
 rintro f w' ⟨k,v,hk,f4,f3,hv,hv2,rfl⟩
 simp -dsimp [go_sem,f3,f4]
 refine cond_d (fun hlt => ?_) (fun hlt => ?_)
 ·have hlt:k < l.length:=by omega
  obtain ⟨b,o,rfl,hcell⟩:=hr k (u8 l[k]) (by simp [hlt])
  have hw:IntKind.u32.wrap (l[k].toNat:Int) = (l[k].toNat:Int):=by have:=UInt8.toNat_lt l[k]; rw [IntKind.wrap_u32']; omega
  have hx:bits .xor .u32 (v:Int) (l[k].toNat:Int) = ((v ^^^ l[k].toNat:Nat):Int):=u32_xor_nat _ _ (by omega) (by have:=UInt8.toNat_lt l[k]; omega)
  have hxl:v ^^^ l[k].toNat < 4294967296:=Nat.xor_lt_two_pow (n:=32) hv (by have:=UInt8.toNat_lt l[k]; omega)
  obtain ⟨x,hx'⟩:∃ x,x = v ^^^ l[k].toNat:=⟨_,rfl⟩
  rw [← hx'] at hx hxl
  simp -dsimp [go_sem,f3,f4,hlt,hcell,hw,hx]
  refine loop [3,5,19,20,21,22,23,24,25,26,27,28,29,30] (by kernel_rfl)
   (fun f w4 => Box2 (fun a b w3 => ∃ i y:Nat,i ≤ 8 ∧ b = i64 i ∧ a = .int .u32 y ∧ y < 4294967296 ∧ y = crcBits i x ∧ w3 = w') (f 3) (f 5) w4) (fun f _ => 8 - (intOf (f 5)).toNat)
   ⟨0,x,Nat.zero_le _,rfl,rfl,hxl,rfl,rfl⟩ ?_
  rintro f2 w2 ⟨i,y,hi,f5,f3',hy,hy2,rfl⟩
  simp -dsimp [go_sem,f5,f3']
  refine cond_d (fun hil => ?_) (fun hil => ?_)
  ·have hil:i < 8:=by omega
   have hst:=crc_if y hy
   have hcl:=crcBit_lt hy
   have hcs:crcBit y = crcBits (i + 1) x:=by rw [crcBits_succ,hy2]
   obtain ⟨z,hz⟩:∃ z,z = crcBit y:=⟨_,rfl⟩
   rw [← hz] at hst hcl hcs
   have hk1:IntKind.i64.wrap ((i:Int) + 1) = ((i + 1:Nat):Int):=w64 (by omega) (by omega)
   obtain ⟨k1,hk1'⟩:∃ k1,k1 = i + 1:=⟨_,rfl⟩
   rw [← hk1'] at hk1
   simp -dsimp [go_sem,f5,f3']
   refine cond_e (fun h1 => ?_) (fun h1 => ?_)
   ·rw [if_pos h1] at hst
    simp -dsimp [go_sem,f5,f3',hst,hk1]
    exact ⟨⟨k1,z,by omega,rfl,rfl,hcl,by rw [hk1',hcs],rfl⟩,by simp [intOf]; omega⟩
   ·rw [if_neg h1] at hst
    simp -dsimp [go_sem,f5,f3',hst,hk1]
    exact ⟨⟨k1,z,by omega,rfl,rfl,hcl,by rw [hk1',hcs],rfl⟩,by simp [intOf]; omega⟩
  ·obtain rfl:i = 8:=by omega
   have hk1:IntKind.i64.wrap ((k:Int) + 1) = ((k + 1:Nat):Int):=w64 (by omega) (by omega)
   obtain ⟨k1,hk1'⟩:∃ k1,k1 = k + 1:=⟨_,rfl⟩
   rw [← hk1'] at hk1
   simp -dsimp [go_sem,f4,hk1]
   refine ⟨⟨k1,y,by omega,rfl,f3',hy,?_,rfl⟩,by simp [intOf]; omega⟩
   rw [hk1',List.take_succ_eq_append_getElem hlt,crcRow_append,← hv2,hy2,hx']
   rfl
 ·obtain rfl:k = l.length:=by omega
  simp -dsimp [go_sem,f3]
  show bits .xor .u32 ((4294967295:Nat):Int) (v:Int) = _
  rw [u32_xor_nat _ _ (by omega) hv,xor_ones hv,hv2,List.take_length]
  rfl
/-! A byte that is another one has another sum. -/
end Go.Proofs.YtellahclbhfdiaaGreatDoor
