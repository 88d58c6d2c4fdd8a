/-
  A state in memory: users by names, each with boxes by names. By the session itself. What a store's plans do, walked: the closures. By the session itself.
-/
import Derived.Test.YtellahclbhfdiaaGreatDoorZ13
import Derived.Test.YtellahclbhfdiaaGreatDoorZ15
import Derived.Test.YtellahclbhfdiaaGreatDoorZ21
namespace Go.Proofs.YtellahclbhfdiaaGreatDoor
set_option linter.unusedSimpArgs false
set_option linter.unusedVariables false
set_option maxRecDepth 100000
set_option maxHeartbeats 1000000
open Go.Vc Go.RowKit
/-- The pointers to users; the values of boxes. -/
def Mu (ptr:Nm → Nat) (l:List (Nm × Usr)):Nm → Option Value:=fun s => (tLook l s).map fun _ => .pointer (some ⟨ptr s,0,none⟩)
def Mb (vb:Nm → Value) (l:List (Nm × Bx)):Nm → Option Value:=fun n => (tLook l n).map fun _ => vb n
theorem Mu_lay (ptr:Nm → Nat) (l:List (Nm × Usr)) (s:Nm) (u:Usr) (p:Nat):put (Mu ptr l) s (.pointer (some ⟨p,0,none⟩)) = Mu (fun t => if t = s then p else ptr t) (tLay l s u):=by
 funext t
 unfold put Mu
 rw [tLook_lay]
 by_cases h:t = s
 ·simp [h]
 ·simp [h]
theorem Mu_same {ptr:Nm → Nat} {l:List (Nm × Usr)} {s:Nm} {u u':Usr} (h:tLook l s = some u):Mu ptr (tLay l s u') = Mu ptr l:=by
 funext t
 unfold Mu
 rw [tLook_lay]
 by_cases ht:t = s
 ·subst ht; simp [h]
 ·simp [ht]
theorem Mb_lay (vb:Nm → Value) (l:List (Nm × Bx)) (n:Nm) (b:Bx) (v:Value):put (Mb vb l) n v = Mb (fun t => if t = n then v else vb t) (tLay l n b):=by
 funext t
 unfold put Mb
 rw [tLook_lay]
 by_cases h:t = n
 ·simp [h]
 ·simp [h]
theorem Mb_gone (vb:Nm → Value) {l:List (Nm × Bx)} (hl:Srt l) (n:Nm):cutM (Mb vb l) n = Mb vb (tGone l n):=by
 funext t
 unfold cutM Mb
 rw [tLook_gone hl]
 by_cases h:t = n
 ·simp [h]
 ·simp [h]
/-- Block p is a user, whose boxes lie in the map r; what they hold lies outside V. -/
structure UsrAt (w:World) (p r:Nat) (u:Usr) (V:Nat → Prop) (vb:Nm → Value):Prop where
 blk:Blk w p 158 #[str u.pass,.map (some r)]
 mp:Mp w r (fun l:Nm => str l) (Mb vb u.bx)
 bx:∀ n b,tLook u.bx n = some b → RB w (vb n) b V
/-- Block t is a state; all of it lies in F. -/
structure SttM (w:World) (t:Nat) (T:Stt) (F V:Nat → Prop) (r:Nat) (ptr rb:Nm → Nat) (vb:Nm → Nm → Value) (Fs:Nm → Nat → Prop):Prop where
 blk:Blk w t 119 #[i64 T.next,.map (some r)]
 mp:Mp w r (fun l:Nm => str l) (Mu ptr T.us)
 us:∀ s u,tLook T.us s = some u → UsrAt w (ptr s) (rb s) u V (vb s) ∧ Fs s (ptr s) ∧ Fs s (rb s) ∧ ptr s ≠ rb s
 apart:∀ s s' k,s ≠ s' → Fs s k → ¬ Fs s' k
 inn:∀ s k,Fs s k → F k ∧ k ≠ t ∧ k ≠ r
 ne:t ≠ r
 ft:F t
 fr:F r
 lt:∀ k,F k → k < w.heap.size
 fv:∀ k,F k → V k
def SttA (w:World) (t:Nat) (T:Stt) (F V:Nat → Prop):Prop:=∃ r ptr rb vb Fs,SttM w t T F V r ptr rb vb Fs
section
variable {w w':World} {p r t:Nat} {u:Usr} {T:Stt} {F V V' S:Nat → Prop} {vb:Nm → Value} {ptr rb:Nm → Nat} {vbs:Nm → Nm → Value} {Fs:Nm → Nat → Prop}
theorem RB.step {v:Value} {b:Bx} (h:RB w v b V) (k:Kp V w w') (hG:Gr V V' w w'):RB w' v b V' :=
 ((h.ofl (T:=fun i => V i ∨ w.heap.size ≤ i) fun i hi => hi).kp (k.mono fun i _ hi => .inl hi)).ofl fun i hi => .inl ((hG i hi).imp id fun e => e.1)
theorem UsrAt.step (h:UsrAt w p r u V vb) (k:Kp S w w') (hS:∀ i,S i → V i) (hp:¬ S p) (hr:¬ S r) (hG:Gr V V' w w'):UsrAt w' p r u V' vb :=
 ⟨h.blk.kp k hp,h.mp.kp k hr,fun n b hb => (h.bx n b hb).step (k.mono fun i _ hi => hS i hi) hG⟩
/-- What turns lies outside the state. -/
theorem SttM.step (h:SttM w t T F V r ptr rb vbs Fs) (k:Kp S w w') (hS:∀ i,S i → V i ∧ ¬ F i) (hG:Gr V V' w w') (hV:∀ i,V i → V' i):SttM w' t T F V' r ptr rb vbs Fs :=
 ⟨h.blk.kp k fun e => (hS _ e).2 h.ft,h.mp.kp k fun e => (hS _ e).2 h.fr,fun s u hu => by
  obtain ⟨h1,h2,h3,h4⟩:=h.us s u hu
  exact ⟨h1.step k (fun i hi => (hS i hi).1) (fun e => (hS _ e).2 (h.inn s _ h2).1) (fun e => (hS _ e).2 (h.inn s _ h3).1) hG,h2,h3,h4⟩,
  h.apart,h.inn,h.ne,h.ft,h.fr,fun i hi => Nat.lt_of_lt_of_le (h.lt i hi) k.size,fun i hi => hV i (h.fv i hi)⟩
theorem SttA.step (h:SttA w t T F V) (k:Kp S w w') (hS:∀ i,S i → V i ∧ ¬ F i) (hG:Gr V V' w w') (hV:∀ i,V i → V' i):SttA w' t T F V':=by
 obtain ⟨r,ptr,rb,vb,Fs,h⟩:=h
 exact ⟨r,ptr,rb,vb,Fs,h.step k hS hG hV⟩
theorem SttM.nw (h:SttM w t T F V r ptr rb vbs Fs) (k:Nw w w'):SttM w' t T F V r ptr rb vbs Fs:=h.step k (fun _ h => h.elim) (fun i hi => .inl hi) fun _ h => h
theorem SttA.nw (h:SttA w t T F V) (k:Nw w w'):SttA w' t T F V:=h.step k (fun _ h => h.elim) (fun i hi => .inl hi) fun _ h => h
end
theorem KL:KeyS Tryz.prog 9 (fun s:Nm => str s):=keyL (by kernel_rfl)
/-- A user's boxes have turned: the map of boxes alone. -/
theorem SttM.boxes {w w':World} {t r:Nat} {T:Stt} {F V:Nat → Prop} {ptr rb:Nm → Nat} {vb:Nm → Nm → Value} {Fs:Nm → Nat → Prop} (h:SttM w t T F V r ptr rb vb Fs) {s:Nm} {u:Usr} (hu:tLook T.us s = some u) (k:Kp (At (rb s)) w w')
  {l:List (Nm × Bx)} {vs:Nm → Value} (hm:Mp w' (rb s) (fun l:Nm => str l) (Mb vs l)) (hv:∀ n b,tLook l n = some b → RB w (vs n) b V):SttM w' t (T.turn s u l) F V r ptr rb (fun x => if x = s then vs else vb x) Fs:=by
 obtain ⟨h1,h2,h3,h4⟩:=h.us s u hu
 have hrV:V (rb s):=h.fv _ (h.inn s _ h3).1
 have kV:Kp V w w':=k.mono fun i _ (e:i = rb s) => e ▸ hrV
 refine ⟨h.blk.kp k fun (e:t = rb s) => (h.inn s _ h3).2.1 e.symm,?_,fun x v hx => ?_,h.apart,h.inn,h.ne,h.ft,h.fr,fun i hi => Nat.lt_of_lt_of_le (h.lt i hi) k.size,h.fv⟩
 ·have:Mu ptr (T.turn s u l).us = Mu ptr T.us:=Mu_same hu
  rw [this]
  exact h.mp.kp k fun (e:r = rb s) => (h.inn s _ h3).2.2 e.symm
 ·have hx:tLook (tLay T.us s { u with bx:=l }) x = some v:=hx
  rw [tLook_lay] at hx
  by_cases hxs:x = s
  ·subst hxs
   rw [if_pos rfl] at hx
   cases hx
   simp only [if_pos rfl]
   exact ⟨⟨h1.blk.kp k fun (e:ptr x = rb x) => h4 e,hm,fun n b hb => (hv n b hb).kp kV⟩,h2,h3,h4⟩
  ·rw [if_neg hxs] at hx
   simp only [if_neg hxs]
   obtain ⟨g1,g2,g3,g4⟩:=h.us x v hx
   exact ⟨g1.step k (fun i (e:i = rb s) => e ▸ hrV) (fun (e:ptr x = rb s) => h.apart x s _ hxs (e ▸ g2) h3) (fun (e:rb x = rb s) => h.apart x s _ hxs (e ▸ g3) h3) fun i hi => .inl hi,g2,g3,g4⟩
/-- The next validity has turned. -/
theorem SttM.next {w:World} {t r:Nat} {T:Stt} {F V:Nat → Prop} {ptr rb:Nm → Nat} {vb:Nm → Nm → Value} {Fs:Nm → Nat → Prop} (h:SttM w t T F V r ptr rb vb Fs) (n:Int):SttM (w.setCell ⟨t,0,none⟩ (i64 n)) t { T with next:=n } F V r ptr rb vb Fs:=by
 have k:Kp (At t) w (w.setCell ⟨t,0,none⟩ (i64 n)):=(Kp.refl _ _).setCell_at _ _
 refine ⟨by simpa using h.blk.set 0 (i64 n),h.mp.kp k fun (e:r = t) => h.ne e.symm,fun s u hu => ?_,h.apart,h.inn,h.ne,h.ft,h.fr,fun i hi => Nat.lt_of_lt_of_le (h.lt i hi) k.size,h.fv⟩
 obtain ⟨g1,g2,g3,g4⟩:=h.us s u hu
 exact ⟨g1.step k (fun i (e:i = t) => e ▸ h.fv t h.ft) (h.inn s _ g2).2.1 (h.inn s _ g3).2.1 fun i hi => .inl hi,g2,g3,g4⟩
/-- One more user, in new blocks. -/
theorem SttM.user {w w1 w':World} {t r:Nat} {T:Stt} {F V:Nat → Prop} {ptr rb:Nm → Nat} {vb:Nm → Nm → Value} {Fs:Nm → Nat → Prop} (h:SttM w t T F V r ptr rb vb Fs) (hVl:∀ i,V i → i < w.heap.size) {s:Nm} {u:Usr} (hu:tLook T.us s = none) (n1:Nw w w1) (k:Kp (At r) w1 w') {p q:Nat} {vs:Nm → Value}
  (hp:w.heap.size ≤ p) (hq:w.heap.size ≤ q) (hpq:p ≠ q) (hp1:p < w'.heap.size) (hq1:q < w'.heap.size) (hU:UsrAt w' p q u (fun i => V i ∨ i = p ∨ i = q) vs) (hm:Mp w' r (fun l:Nm => str l) (put (Mu ptr T.us) s (.pointer (some ⟨p,0,none⟩)))) :
  SttM w' t { T with us:=tLay T.us s u } (fun i => F i ∨ i = p ∨ i = q) (fun i => V i ∨ i = p ∨ i = q) r (fun x => if x = s then p else ptr x) (fun x => if x = s then q else rb x) (fun x => if x = s then vs else vb x) (fun x i => if x = s then i = p ∨ i = q else Fs x i):=by
 have hF:∀ i,F i → i < w.heap.size:=h.lt
 have k':Kp (At r) w w':=(Nw.kp n1 _).trans k fun _ _ h => h
 have hrl:=hF r h.fr
 have htl:=hF t h.ft
 have hG:Gr V (fun i => V i ∨ i = p ∨ i = q) w w':=fun i hi => hi.imp id fun e => by rcases e with rfl | rfl <;> omega
 refine ⟨h.blk.kp k' fun (e:t = r) => h.ne e,?_,fun x v hx => ?_,fun x y i hxy hx hy => ?_,fun x i hi => ?_,h.ne,.inl h.ft,.inl h.fr,fun i hi => ?_,fun i hi => hi.imp (h.fv i) id⟩
 ·rw [← Mu_lay]
  exact hm
 ·have hx:tLook (tLay T.us s u) x = some v:=hx
  rw [tLook_lay] at hx
  by_cases hxs:x = s
  ·subst hxs
   rw [if_pos rfl] at hx
   cases hx
   simp only [if_pos rfl]
   exact ⟨hU,.inl rfl,.inr rfl,hpq⟩
  ·rw [if_neg hxs] at hx
   simp only [if_neg hxs]
   obtain ⟨g1,g2,g3,g4⟩:=h.us x v hx
   exact ⟨g1.step k' (fun i (e:i = r) => e ▸ h.fv r h.fr) (h.inn x _ g2).2.2 (h.inn x _ g3).2.2 hG,g2,g3,g4⟩
 ·have lo:∀ z,(if z = s then i = p ∨ i = q else Fs z i) → z ≠ s → i < w.heap.size:=fun z hz hzs => by
   rw [if_neg hzs] at hz
   exact hF i (h.inn z i hz).1
  by_cases hxs:x = s
  ·have hys:y ≠ s:=fun e => hxy (hxs.trans e.symm)
   have:=lo y hy hys
   rw [if_pos hxs] at hx
   rcases hx with rfl | rfl <;> omega
  ·by_cases hys:y = s
   ·have:=lo x hx hxs
    rw [if_pos hys] at hy
    rcases hy with rfl | rfl <;> omega
   ·rw [if_neg hxs] at hx
    rw [if_neg hys] at hy
    exact h.apart x y i hxy hx hy
 ·by_cases hxs:x = s
  ·rw [if_pos hxs] at hi
   refine ⟨.inr hi,?_,?_⟩
   ·rcases hi with rfl | rfl <;> omega
   ·rcases hi with rfl | rfl <;> omega
  ·rw [if_neg hxs] at hi
   have:=h.inn x i hi
   exact ⟨.inl this.1,this.2⟩
 ·rcases hi with hi | rfl | rfl
  ·exact Nat.lt_of_lt_of_le (hF i hi) k'.size
  ·exact hp1
  ·exact hq1
theorem hmb:Tryz.prog.underlying 156 = some (.map 9 111):=by kernel_rfl
theorem hmu:Tryz.prog.underlying 117 = some (.map 9 116):=by kernel_rfl
section
variable {w:World} {t r:Nat} {T:Stt} {F V:Nat → Prop} {ptr rb:Nm → Nat} {vb:Nm → Nm → Value} {Fs:Nm → Nat → Prop}
/-- A box laid under its name. -/
theorem keeps1_spec (h:SttM w t T F V r ptr rb vb Fs) {s n:Nm} {u:Usr} {b:Bx} (hu:tLook T.us s = some u) {y x:Nat} {vL:Value} (hy:Blk w y 111 #[str n,i64 b.val,i64 b.next,vL]) (hx:Blk w x 116 #[.pointer (some ⟨ptr s,0,none⟩)])
  (hn:b.name = ⟨n.toArray⟩) (hb:RB w (.agg #[.string b.name,i64 b.val,i64 b.next,vL]) b V) (hyF:¬ F y) (hxF:¬ F x) :
  Cal Tryz.prog 148 #[.pointer (some ⟨y,0,none⟩),.pointer (some ⟨x,0,none⟩)] w fun v w' => v = .tuple #[] ∧ SttA w' t (T.turn s u (tLay u.bx n b)) F V ∧ Kp F w w':=by
 obtain ⟨hU,h2,h3,h4⟩:=h.us s u hu
 have hrF:=(h.inn s _ h3).1
 have hpF:=(h.inn s _ h2).1
 have x0:=hx.cell 0
 have p1:=hU.blk.cell 1
 have y0:=hy.cell 0
 have y1:=hy.cell 1
 have y2:=hy.cell 2
 have y3:=hy.cell 3
 have hxr:x ≠ rb s:=fun e => hxF (e ▸ hrF)
 have hyr:y ≠ rb s:=fun e => hyF (e ▸ hrF)
 have kd:Nw w w.drew:=(Kp.refl _ _).drew
 obtain ⟨w1,hup,hm1,hk1⟩:=update_mp KL hmb (hU.mp.kp kd fun h => h) n (.agg #[str n,i64 b.val,i64 b.next,vL])
 rw [hn] at hb
 refine enter Tryz.mixed Tryz.func148 rfl (by kernel_rfl) ?_
 refine draw (.take 0 (.take 1 (.take 2 (.take 3 (.take 4 (.take 5 (.take 6 (.alt 7 .done .stop)))))))) (by kernel_rfl) (fun wz => Kp (At (rb s)) w wz) ((Kp.refl _ _).drew) ?_
 simp -dsimp [go_sem,x0,p1,y0,y1,y2,y3,hup]
 have hk:Kp (At (rb s)) w w1:=(Nw.kp kd _).trans hk1 fun _ _ h => h
 refine ⟨fun wz hz => by simp [hz.cell_some x0 hxr],fun wz hz => by simp [hz.cell_some p1 h4],fun wz hz => by simp [hz.cell_some y0 hyr],fun wz hz => by simp [hz.cell_some y0 hyr,hz.cell_some y1 hyr,hz.cell_some y2 hyr,hz.cell_some y3 hyr],hk,?_⟩
 refine ⟨⟨r,ptr,rb,_,Fs,h.boxes hu hk (by rw [← Mb_lay (b:=b)]; exact hm1) fun m d hd => ?_⟩,hk.mono fun i _ (e:i = rb s) => e ▸ hrF⟩
 rw [tLook_lay] at hd
 by_cases hm:m = n
 ·rw [if_pos hm] at hd ⊢
  cases hd
  exact hb
 ·rw [if_neg hm] at hd ⊢
  exact hU.bx m d hd
/-- A box taken away. -/
theorem plans1_spec (h:SttM w t T F V r ptr rb vb Fs) (ok:∀ s u,tLook T.us s = some u → Srt u.bx) {s n:Nm} {u:Usr} (hu:tLook T.us s = some u) {y x:Nat} (y3:w.cell? ⟨y,3,none⟩ = some (str n)) (hx:Blk w x 116 #[.pointer (some ⟨ptr s,0,none⟩)])
  (hyF:¬ F y) (hxF:¬ F x) :
  Cal Tryz.prog 89 #[.pointer (some ⟨x,0,none⟩),.pointer (some ⟨y,0,none⟩)] w fun v w' => v = .tuple #[] ∧ SttM w' t (T.turn s u (tGone u.bx n)) F V r ptr rb (fun z => if z = s then vb s else vb z) Fs ∧ Kp (At (rb s)) w w':=by
 obtain ⟨hU,h2,h3,h4⟩:=h.us s u hu
 have hrF:=(h.inn s _ h3).1
 have x0:=hx.cell 0
 have p1:=hU.blk.cell 1
 have hxr:x ≠ rb s:=fun e => hxF (e ▸ hrF)
 have hyr:y ≠ rb s:=fun e => hyF (e ▸ hrF)
 have kd:Nw w w.drew:=(Kp.refl _ _).drew
 obtain ⟨w1,hup,hm1,hk1⟩:=delete_mp (ty:=0) KL hmb (hU.mp.kp kd fun h => h) n
 have hup:deleteS Tryz.prog #[156,9] 0 #[.map (some (rb s)),str n] w.drew = .ok (.tuple #[]) w1:=hup
 refine enter Tryz.mixed Tryz.func89 rfl (by kernel_rfl) ?_
 refine draw (.take 0 (.take 1 (.take 2 (.take 3 (.take 4 (.take 5 (.alt 6 .done .stop))))))) (by kernel_rfl) (fun wz => Kp (At (rb s)) w wz) ((Kp.refl _ _).drew) ?_
 simp -dsimp [go_sem,x0,p1,y3,hup]
 have hk:Kp (At (rb s)) w w1:=(Nw.kp kd _).trans hk1 fun _ _ h => h
 refine ⟨fun wz hz => by simp [hz.cell_some x0 hxr],fun wz hz => by simp [hz.cell_some p1 h4],fun wz hz => by simp [hz.cell_some y3 hyr],hk,?_⟩
 refine ⟨h.boxes hu hk (by rw [← Mb_gone _ (ok s u hu)]; exact hm1) fun m d hd => ?_,hk⟩
 rw [tLook_gone (ok s u hu)] at hd
 split at hd
 ·cases hd
 ·exact hU.bx m d hd
/-- A new box under its name, with the next validity. -/
theorem creates1_spec (h:SttM w t T F V r ptr rb vb Fs) (hVl:∀ i,V i → i < w.heap.size) {s n:Nm} {u:Usr} (hu:tLook T.us s = some u) (hnx:1 ≤ T.next ∧ T.next ≤ 1048576) {y x z:Nat} (y3:w.cell? ⟨y,3,none⟩ = some (str n)) (hx:Blk w x 116 #[.pointer (some ⟨ptr s,0,none⟩)]) (hz:Blk w z 95 #[.pointer (some ⟨t,0,none⟩)])
  (hyF:¬ F y) (hxF:¬ F x) (hzF:¬ F z) :
  Cal Tryz.prog 144 #[.pointer (some ⟨y,0,none⟩),.pointer (some ⟨z,0,none⟩),.pointer (some ⟨x,0,none⟩)] w fun v w' => v = .tuple #[] ∧ SttA w' t { T.turn s u (tLay u.bx n (newB n T.next)) with next:=T.next + 1 } F V ∧ Kp F w w':=by
 obtain ⟨hU,h2,h3,h4⟩:=h.us s u hu
 have hrF:=(h.inn s _ h3).1
 have htr:t ≠ rb s:=fun e => (h.inn s _ h3).2.1 e.symm
 have x0:=hx.cell 0
 have z0:=hz.cell 0
 have p1:=hU.blk.cell 1
 have t0:=h.blk.cell 0
 have hxr:x ≠ rb s:=fun e => hxF (e ▸ hrF)
 have hyr:y ≠ rb s:=fun e => hyF (e ▸ hrF)
 have hzr:z ≠ rb s:=fun e => hzF (e ▸ hrF)
 have kd:Nw w w.drew:=(Kp.refl _ _).drew
 have hw:IntKind.i64.wrap (T.next + 1) = T.next + 1:=w64 (by omega) (by omega)
 refine enter Tryz.mixed Tryz.func144 rfl (by kernel_rfl) ?_
 simp -dsimp [go_sem]
 refine draw (.take 0 (.take 1 (.take 2 (.take 3 (.take 4 (.take 5 (.take 6 (.take 7 (.take 8 (.take 9 (.take 10 (.take 11 (.alt 12 (.alt 13 .done .stop) .stop))))))))))))) (by kernel_rfl) (fun wz => Kp (At (rb s)) w wz) ((Kp.refl _ _).drew) ?_
 simp -dsimp [go_sem,x0,z0,p1,y3,t0]
 refine ⟨fun wz hz => by simp [hz.cell_some x0 hxr],fun wz hz => by simp [hz.cell_some p1 h4],fun wz hz => by simp [hz.cell_some y3 hyr],fun wz hk => by simp [hk.cell_some z0 hzr],fun wz hz => by simp [hz.cell_some t0 htr],?_⟩
 refine call (bxnew_spec ⟨n.toArray⟩ T.next _) ?_
 rintro v w1 ⟨rfl,k1⟩
 have n1:Nw w w1:=kd.nw k1
 obtain ⟨w2,hup,hm2,hk2⟩:=update_mp KL hmb (hU.mp.kp n1 fun h => h) n (.agg #[str n,i64 T.next,i64 1,.slice none 0 0])
 refine ⟨Nw.kp n1 _,?_⟩
 have hk:Kp (At (rb s)) w w2:=(Nw.kp n1 _).trans hk2 fun _ _ h => h
 simp -dsimp [go_sem,hup]
 refine ⟨hk,?_⟩
 have hS:=h.boxes hu hk (l:=tLay u.bx n (newB n T.next)) (vs:=fun m => if m = n then .agg #[str n,i64 T.next,i64 1,.slice none 0 0] else vb s m) (by rw [← Mb_lay (b:=newB n T.next)]; exact hm2) fun m d hd => by
  rw [tLook_lay] at hd
  by_cases hm:m = n
  ·rw [if_pos hm] at hd ⊢
   cases hd
   exact ⟨none,0,[],rfl,rfl,Nat.le_refl _,Rd.nil _ _,fun _ _ h => absurd rfl h,fun _ h => by cases h⟩
  ·rw [if_neg hm] at hd ⊢
   exact hU.bx m d hd
 have z2:=(hz.kp hk hzr).cell 0
 have t2:=hS.blk.cell 0
 have tf:=hS.blk.frozen 0
 have hnn:(T.turn s u (tLay u.bx n (newB n T.next))).next = T.next:=rfl
 rw [hnn] at t2
 simp -dsimp [go_sem,z2,t2,tf,hw]
 exact ⟨⟨r,ptr,rb,_,Fs,hS.next (T.next + 1)⟩,(hk.mono fun i _ (e:i = rb s) => e ▸ hrF).trans ((Kp.refl (At t) _).setCell_at _ _) fun i _ (e:i = t) => e ▸ h.ft⟩
/-- A box under another name. -/
theorem renames1_spec (h:SttM w t T F V r ptr rb vb Fs) (ok:∀ s u,tLook T.us s = some u → Srt u.bx) {s n m:Nm} {u:Usr} {b:Bx} (hu:tLook T.us s = some u) {y x z:Nat} {vL:Value} (y3:w.cell? ⟨y,3,none⟩ = some (str n)) (y4:w.cell? ⟨y,4,none⟩ = some (str m)) (hx:Blk w x 116 #[.pointer (some ⟨ptr s,0,none⟩)]) (hz:Blk w z 111 #[str m,i64 b.val,i64 b.next,vL])
  (hb:RB w (.agg #[str m,i64 b.val,i64 b.next,vL]) { b with name:=⟨m.toArray⟩ } V) (hyF:¬ F y) (hxF:¬ F x) (hzF:¬ F z) :
  Cal Tryz.prog 145 #[.pointer (some ⟨x,0,none⟩),.pointer (some ⟨y,0,none⟩),.pointer (some ⟨z,0,none⟩)] w fun v w' => v = .tuple #[] ∧ SttA w' t (T.turn s u (tLay (tGone u.bx n) m { b with name:=⟨m.toArray⟩ })) F V ∧ Kp F w w':=by
 obtain ⟨hU,h2,h3,h4⟩:=h.us s u hu
 have hrF:=(h.inn s _ h3).1
 have x0:=hx.cell 0
 have p1:=hU.blk.cell 1
 have hxr:x ≠ rb s:=fun e => hxF (e ▸ hrF)
 have hyr:y ≠ rb s:=fun e => hyF (e ▸ hrF)
 have hzr:z ≠ rb s:=fun e => hzF (e ▸ hrF)
 have kd:Nw w w.drew:=(Kp.refl _ _).drew
 obtain ⟨w1,hup,hm1,hk1⟩:=delete_mp (ty:=0) KL hmb (hU.mp.kp kd fun h => h) n
 have hup:deleteS Tryz.prog #[156,9] 0 #[.map (some (rb s)),str n] w.drew = .ok (.tuple #[]) w1:=hup
 refine enter Tryz.mixed Tryz.func145 rfl (by kernel_rfl) ?_
 simp -dsimp [go_sem]
 refine draw (.take 0 (.take 1 (.take 2 (.take 3 (.take 4 (.take 5 (.alt 6 .done .stop))))))) (by kernel_rfl) (fun wz => Kp (At (rb s)) w wz) ((Kp.refl _ _).drew) ?_
 simp -dsimp [go_sem,x0,p1,y3,hup]
 have hk:Kp (At (rb s)) w w1:=(Nw.kp kd _).trans hk1 fun _ _ h => h
 refine ⟨fun wz hz => by simp [hz.cell_some x0 hxr],fun wz hz => by simp [hz.cell_some p1 h4],fun wz hz => by simp [hz.cell_some y3 hyr],hk,?_⟩
 rw [Mb_gone _ (ok s u hu)] at hm1
 have kd1:Nw w1 w1.drew:=(Kp.refl _ _).drew
 obtain ⟨w2,hup2,hm2,hk2⟩:=update_mp KL hmb (hm1.kp kd1 fun h => h) m (.agg #[str m,i64 b.val,i64 b.next,vL])
 have hk12:Kp (At (rb s)) w w2:=hk.trans ((Nw.kp kd1 _).trans hk2 fun _ _ h => h) fun _ _ h => h
 have x01:=hk.cell_some x0 hxr
 have p11:=hk.cell_some p1 h4
 have y41:=hk.cell_some y4 hyr
 have hz1:=hz.kp hk hzr
 have z0:=hz1.cell 0
 have z1:=hz1.cell 1
 have z2:=hz1.cell 2
 have z3:=hz1.cell 3
 refine draw (.take 0 (.take 1 (.take 2 (.take 3 (.take 4 (.take 5 (.take 6 (.alt 7 .done .stop)))))))) (by kernel_rfl) (fun wz => Kp (At (rb s)) w1 wz) ((Kp.refl _ _).drew) ?_
 simp -dsimp [go_sem,x01,p11,y41,z0,z1,z2,z3,hup2]
 refine ⟨fun wz hz => by simp [hz.cell_some x01 hxr],fun wz hz => by simp [hz.cell_some p11 h4],fun wz hz => by simp [hz.cell_some y41 hyr],fun wz hz => by simp [hz.cell_some z0 hzr,hz.cell_some z1 hzr,hz.cell_some z2 hzr,hz.cell_some z3 hzr],(Nw.kp kd1 _).trans hk2 fun _ _ h => h,?_⟩
 refine ⟨⟨r,ptr,rb,_,Fs,h.boxes hu hk12 (by rw [← Mb_lay (b:={ b with name:=⟨m.toArray⟩ })]; exact hm2) fun k d hd => ?_⟩,hk12.mono fun i _ (e:i = rb s) => e ▸ hrF⟩
 rw [tLook_lay] at hd
 by_cases hm:k = m
 ·rw [if_pos hm] at hd ⊢
  cases hd
  exact hb
 ·rw [if_neg hm,tLook_gone (ok s u hu)] at hd
  rw [if_neg hm]
  split at hd
  ·cases hd
  ·exact hU.bx k d hd
end
def AddsR (w w':World) (t:Nat) (T:Stt) (s ps:Nm) (F V:Nat → Prop):Prop:=∃ p q,w.heap.size ≤ p ∧ w.heap.size ≤ q ∧ p < w'.heap.size ∧ q < w'.heap.size ∧
 SttA w' t ⟨T.next + 1,tLay T.us s ⟨ps,[(inboxN,newB inboxN T.next)]⟩⟩ (fun i => F i ∨ i = p ∨ i = q) (fun i => V i ∨ i = p ∨ i = q) ∧ Kp F w w'
/-- One more user, with an inbox. -/
theorem adds1_spec {w:World} {t r:Nat} {T:Stt} {F V:Nat → Prop} {ptr rb:Nm → Nat} {vb:Nm → Nm → Value} {Fs:Nm → Nat → Prop} (h:SttM w t T F V r ptr rb vb Fs) (hVl:∀ i,V i → i < w.heap.size) {s ps:Nm} (hu:tLook T.us s = none) (hnx:1 ≤ T.next ∧ T.next ≤ 1048576) {y z:Nat}
  (y1:w.cell? ⟨y,1,none⟩ = some (str s)) (y2:w.cell? ⟨y,2,none⟩ = some (str ps)) (hz:Blk w z 95 #[.pointer (some ⟨t,0,none⟩)]) (hyF:¬ F y) (hzF:¬ F z) :
  Cal Tryz.prog 142 #[.pointer (some ⟨y,0,none⟩),.pointer (some ⟨z,0,none⟩)] w fun v w' => v = .tuple #[] ∧ AddsR w w' t T s ps F V:=by
 have hrl:=h.lt r h.fr
 have z0:=hz.cell 0
 have t0:=h.blk.cell 0
 have t1:=h.blk.cell 1
 have hyr:y ≠ r:=fun e => hyF (e ▸ h.fr)
 have hzr:z ≠ r:=fun e => hzF (e ▸ h.fr)
 have kd:Nw w w.drew:=(Kp.refl _ _).drew
 have hw:IntKind.i64.wrap (T.next + 1) = T.next + 1:=w64 (by omega) (by omega)
 refine enter Tryz.mixed Tryz.func142 rfl (by kernel_rfl) ?_
 simp -dsimp [go_sem]
 refine draw (.take 0 (.take 1 (.take 2 (.take 3 (.take 4 (.take 5 (.take 6 (.take 7 (.take 9 (.take 10 (.take 11 (.take 12 (.alt 8 (.alt 13 (.alt 14 (.take 15 (.alt 16 (.alt 17 (.alt 18 .done .stop) .stop) .stop)) .stop) .stop) (.alt 13 (.alt 8 (.alt 14 (.take 15 (.alt 16 (.alt 17 (.alt 18 .done .stop) .stop) .stop)) .stop) .stop) .stop)))))))))))))) (by kernel_rfl) (fun wz => Kp (At r) w wz) ((Kp.refl _ _).drew) ?_
 have hmk:=fun (t:TypeId) (w:World) => run_makeMap (P:=Tryz.prog) t w
 simp -dsimp [go_sem,z0,y1,y2,t0,t1,hmk]
 refine ⟨fun wz hz => by simp [hz.cell_some z0 hzr],fun wz hz => by simp [hz.cell_some t1 h.ne],fun wz hz => by simp [hz.cell_some y1 hyr],fun wz hz => by simp [hz.cell_some y2 hyr],fun wz hz => by simp [hz.cell_some z0 hzr],fun wz hz => by simp [hz.cell_some t0 h.ne],?_,?_⟩
 ·have n1:Nw w (w.drew.alloc (.map #[] 0)):=kd.alloc _
  refine ⟨Nw.kp n1 _,?_⟩
  refine call (bxnew_spec ⟨inboxN.toArray⟩ T.next _) ?_
  rintro v w3 ⟨rfl,k3⟩
  have n3:=n1.nw k3
  refine ⟨Nw.kp n3 _,?_⟩
  have hm0:Mp w3 w.drew.heap.size (fun l:Nm => str l) (fun _ => none):=(Mp.new w.drew).kp k3 fun h => h
  obtain ⟨q,hq⟩:∃ q,q = w.heap.size:=⟨_,rfl⟩
  have hq3:q < w3.heap.size:=by have:=k3.size; simp at this; omega
  have e:w.drew.heap.size = q:=hq.symm
  rw [e] at hm0
  rw [← hq]
  simp -dsimp [go_sem]
  obtain ⟨w4,hup4,hm4,hk4⟩:=update_mp KL hmb hm0 inboxN (.agg #[str inboxN,i64 T.next,i64 1,.slice none 0 0])
  have hup4:(Instr.mapUpdate 156 (.map (some q)) (.string ⟨#[105,110,98,111,120]⟩) (.agg #[str inboxN,i64 T.next,i64 1,.slice none 0 0])).run Tryz.prog w3 = .ok () w4:=hup4
  have n4:Nw w w4:=Kp.at_ n3 hk4 (fun i (e:i = q) => by omega)
  have hq4:q < w4.heap.size:=Nat.lt_of_lt_of_le hq3 hk4.size
  obtain ⟨p,hp⟩:∃ p,p = w4.heap.size:=⟨_,rfl⟩
  have hb5:Blk (w4.alloc (.cells #[str ps,.map (some q)] 158)) p 158 #[str ps,.map (some q)]:=hp ▸ Blk.new w4 _ _
  have k5:Nw w4 (w4.alloc (.cells #[str ps,.map (some q)] 158)):=(Kp.refl _ _).alloc _
  have s5:(w4.alloc (.cells #[str ps,.map (some q)] 158)).heap.size = p + 1:=by simp [hp]
  have hp4:w.heap.size ≤ p:=by have:=n4.size; omega
  obtain ⟨w6,hup6,hm6,hk6⟩:=update_mp KL hmu (h.mp.kp (n4.nw k5) fun h => h) s (.pointer (some ⟨p,0,none⟩))
  simp -dsimp [go_sem,hup4]
  refine ⟨Nw.kp n4 _,?_⟩
  simp [go_sem]
  refine ⟨Nw.kp n4 _,?_⟩
  rw [← hp]
  refine ⟨Nw.kp (n4.nw k5) _,?_⟩
  simp -dsimp [go_sem,hup6]
  have k46:Kp (At r) w4 w6:=(Nw.kp k5 _).trans hk6 fun _ _ h => h
  have k6:Kp (At r) w w6:=(Nw.kp n4 _).trans k46 fun _ _ h => h
  refine ⟨k6,?_⟩
  have hs6:=hk6.size
  have hU:UsrAt w6 p q ⟨ps,[(inboxN,newB inboxN T.next)]⟩ (fun i => V i ∨ i = p ∨ i = q) (fun _ => .agg #[str inboxN,i64 T.next,i64 1,.slice none 0 0]):=by
   refine ⟨hb5.kp hk6 fun (e:p = r) => by omega,?_,fun n b hb => ?_⟩
   ·have e:Mb (fun _ => (.agg #[str inboxN,i64 T.next,i64 1,.slice none 0 0]:Value)) [(inboxN,newB inboxN T.next)] = put (fun _ => none) inboxN (.agg #[str inboxN,i64 T.next,i64 1,.slice none 0 0]):=by
     funext a
     unfold Mb put
     simp only [tLook]
     by_cases ha:a = inboxN
     ·simp [ha]
     ·rw [if_neg (fun e => ha e.symm),if_neg ha]; rfl
    show Mp w6 q _ (Mb _ [(inboxN,newB inboxN T.next)])
    rw [e]
    exact hm4.kp k46 fun (e:q = r) => by omega
   ·have hb:tLook [(inboxN,newB inboxN T.next)] n = some b:=hb
    simp only [tLook] at hb
    split at hb
    ·cases hb
     exact ⟨none,0,[],rfl,rfl,Nat.le_refl _,Rd.nil _ _,fun _ _ h => absurd rfl h,fun _ h => by cases h⟩
    ·cases hb
  have hS:=h.user hVl (s:=s) (u:=⟨ps,[(inboxN,newB inboxN T.next)]⟩) hu (n4.nw k5) hk6 hp4 (by omega) (by omega) (by omega) (by omega) hU hm6
  have z6:=k6.cell_some z0 hzr
  have t6:=hS.blk.cell 0
  have tf:=hS.blk.frozen 0
  simp -dsimp [go_sem,z6,t6,tf,hw]
  have hsc:(w6.setCell ⟨t,0,none⟩ (i64 (T.next + 1))).heap.size = w6.heap.size:=by simp
  exact ⟨p,q,hp4,by omega,by rw [hsc]; omega,by rw [hsc]; omega,⟨r,_,_,_,_,hS.next (T.next + 1)⟩,(k6.mono fun i _ (e:i = r) => e ▸ h.fr).trans ((Kp.refl (At t) _).setCell_at _ _) fun i _ (e:i = t) => e ▸ h.ft⟩
 ·refine call (bxnew_spec ⟨inboxN.toArray⟩ T.next _) ?_
  rintro v w2 ⟨rfl,k2⟩
  have n2:=kd.nw k2
  refine ⟨Nw.kp n2 _,?_⟩
  have n3:Nw w (w2.alloc (.map #[] 0)):=n2.alloc _
  have hm0:Mp (w2.alloc (.map #[] 0)) w2.heap.size (fun l:Nm => str l) (fun _ => none):=Mp.new w2
  obtain ⟨q,hq⟩:∃ q,q = w2.heap.size:=⟨_,rfl⟩
  have hqw:w.heap.size ≤ q:=by have:=n2.size; omega
  have hq3:q < (w2.alloc (.map #[] 0)).heap.size:=by simp; omega
  rw [← hq] at hm0
  simp -dsimp [go_sem,hmk]
  refine ⟨Nw.kp n3 _,?_⟩
  rw [← hq]
  generalize w2.alloc (.map #[] 0) = w3 at *
  obtain ⟨w4,hup4,hm4,hk4⟩:=update_mp KL hmb hm0 inboxN (.agg #[str inboxN,i64 T.next,i64 1,.slice none 0 0])
  have hup4:(Instr.mapUpdate 156 (.map (some q)) (.string ⟨#[105,110,98,111,120]⟩) (.agg #[str inboxN,i64 T.next,i64 1,.slice none 0 0])).run Tryz.prog w3 = .ok () w4:=hup4
  have n4:Nw w w4:=Kp.at_ n3 hk4 (fun i (e:i = q) => by omega)
  have hq4:q < w4.heap.size:=Nat.lt_of_lt_of_le hq3 hk4.size
  obtain ⟨p,hp⟩:∃ p,p = w4.heap.size:=⟨_,rfl⟩
  have hb5:Blk (w4.alloc (.cells #[str ps,.map (some q)] 158)) p 158 #[str ps,.map (some q)]:=hp ▸ Blk.new w4 _ _
  have k5:Nw w4 (w4.alloc (.cells #[str ps,.map (some q)] 158)):=(Kp.refl _ _).alloc _
  have s5:(w4.alloc (.cells #[str ps,.map (some q)] 158)).heap.size = p + 1:=by simp [hp]
  have hp4:w.heap.size ≤ p:=by have:=n4.size; omega
  obtain ⟨w6,hup6,hm6,hk6⟩:=update_mp KL hmu (h.mp.kp (n4.nw k5) fun h => h) s (.pointer (some ⟨p,0,none⟩))
  simp -dsimp [go_sem,hup4]
  refine ⟨Nw.kp n4 _,?_⟩
  simp [go_sem]
  refine ⟨Nw.kp n4 _,?_⟩
  rw [← hp]
  refine ⟨Nw.kp (n4.nw k5) _,?_⟩
  simp -dsimp [go_sem,hup6]
  have k46:Kp (At r) w4 w6:=(Nw.kp k5 _).trans hk6 fun _ _ h => h
  have k6:Kp (At r) w w6:=(Nw.kp n4 _).trans k46 fun _ _ h => h
  refine ⟨k6,?_⟩
  have hs6:=hk6.size
  have hU:UsrAt w6 p q ⟨ps,[(inboxN,newB inboxN T.next)]⟩ (fun i => V i ∨ i = p ∨ i = q) (fun _ => .agg #[str inboxN,i64 T.next,i64 1,.slice none 0 0]):=by
   refine ⟨hb5.kp hk6 fun (e:p = r) => by omega,?_,fun n b hb => ?_⟩
   ·have e:Mb (fun _ => (.agg #[str inboxN,i64 T.next,i64 1,.slice none 0 0]:Value)) [(inboxN,newB inboxN T.next)] = put (fun _ => none) inboxN (.agg #[str inboxN,i64 T.next,i64 1,.slice none 0 0]):=by
     funext a
     unfold Mb put
     simp only [tLook]
     by_cases ha:a = inboxN
     ·simp [ha]
     ·rw [if_neg (fun e => ha e.symm),if_neg ha]; rfl
    show Mp w6 q _ (Mb _ [(inboxN,newB inboxN T.next)])
    rw [e]
    exact hm4.kp k46 fun (e:q = r) => by omega
   ·have hb:tLook [(inboxN,newB inboxN T.next)] n = some b:=hb
    simp only [tLook] at hb
    split at hb
    ·cases hb
     exact ⟨none,0,[],rfl,rfl,Nat.le_refl _,Rd.nil _ _,fun _ _ h => absurd rfl h,fun _ h => by cases h⟩
    ·cases hb
  have hS:=h.user hVl (s:=s) (u:=⟨ps,[(inboxN,newB inboxN T.next)]⟩) hu (n4.nw k5) hk6 hp4 (by omega) (by omega) (by omega) (by omega) hU hm6
  have z6:=k6.cell_some z0 hzr
  have t6:=hS.blk.cell 0
  have tf:=hS.blk.frozen 0
  simp -dsimp [go_sem,z6,t6,tf,hw]
  have hsc:(w6.setCell ⟨t,0,none⟩ (i64 (T.next + 1))).heap.size = w6.heap.size:=by simp
  exact ⟨p,q,hp4,by omega,by rw [hsc]; omega,by rw [hsc]; omega,⟨r,_,_,_,_,hS.next (T.next + 1)⟩,(k6.mono fun i _ (e:i = r) => e ▸ h.fr).trans ((Kp.refl (At t) _).setCell_at _ _) fun i _ (e:i = t) => e ▸ h.ft⟩
end Go.Proofs.YtellahclbhfdiaaGreatDoor
