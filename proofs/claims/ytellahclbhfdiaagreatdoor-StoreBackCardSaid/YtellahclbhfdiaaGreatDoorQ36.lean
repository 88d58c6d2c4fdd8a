/-
  LedgerTorn walked. By the session itself. LedgerApart walked. By the session itself. The statements' begin and known, walked. By the session itself. A store in a law: Do, Check; the statements' known, walked; StoreOfNothing. By the session itself. A store asked: Users, Boxes, Get walked. By the session itself. Changes handed in: one, rows of them, acts with them. By the session itself. How heavy a change is; StoreOfNothing walked. By the session itself. All that a store tells, as one text: state walked. By the session itself.
-/
import Derived.Test.YtellahclbhfdiaaGreatDoorQ35
import Derived.Test.YtellahclbhfdiaaGreatDoorQ11
import Derived.Test.YtellahclbhfdiaaGreatDoorQ05
import Derived.Test.YtellahclbhfdiaaGreatDoorQ07
import Derived.Test.YtellahclbhfdiaaGreatDoorQ20
import Derived.Test.YtellahclbhfdiaaGreatDoorQ09
namespace Go.Proofs.YtellahclbhfdiaaGreatDoor
set_option linter.unusedSimpArgs false
set_option linter.unusedVariables false
set_option maxRecDepth 100000
set_option maxHeartbeats 2000000
open Go.Vc Go.RowKit
/-- A disk, all of it new since w0. -/
def Dw (w0 w:World) (g:Nat) (D:Dsk):Prop:=∃ F,Dk w g D F ∧ (∀ k,F k → w0.heap.size ≤ k) ∧ Nw w0 w
section
variable {w0 w w1:World} {l g:Nat} {p:Nm} {D D':Dsk} {L:Led}
theorem Dw.nw (T:Dw w0 w g D) (k:Nw w w1):Dw w0 w1 g D:=by
 obtain ⟨F,h1,h2,h3⟩:=T
 exact ⟨F,h1.nw k,h2,h3.nw k⟩
theorem Dw.on (T:Dw w0 w g D):Nw w0 w:=by
 obtain ⟨F,h1,h2,h3⟩:=T
 exact h3
theorem Dw.call {k:FuncId} {args:Array Value} {u:Value} (T:Dw w0 w g D) (k1:Nw w w1)
  (h:∀ F,Dk w g D F → Dk w1 g D F → Cal Tryz.prog k args w1 fun v w' => v = u ∧ ∃ F',Dk w' g D' F' ∧ Gr F F' w1 w' ∧ Kp F w1 w'):Cal Tryz.prog k args w1 fun v w' => v = u ∧ Dw w0 w' g D':=by
 obtain ⟨F,h1,h2,h3⟩:=T
 refine (h F h1 (h1.nw k1)).mono ?_
 rintro v w' ⟨hv,F',hD,hG,hK⟩
 exact ⟨hv,F',hD,fun k hk => (hG k hk).elim (h2 k) fun e => Nat.le_trans (h3.nw k1).size e.1,(h3.nw k1).at_ hK h2⟩
end
/-- A ledger and a row of the law's own, apart. -/
def Lx (w0 w:World) (l g:Nat) (p:Nm) (D:Dsk) (L:Led) (A:Option Addr):Prop:=∃ F G V,LS w l g p D L F G V ∧ L.Ok ∧ (∀ k,V k → w0.heap.size ≤ k) ∧ Nw w0 w ∧ ∀ k,blk A k → V k ∧ ¬ F k ∧ ¬ G k
section
variable {w0 w w1:World} {l g:Nat} {p:Nm} {D D':Dsk} {L:Led} {A:Option Addr}
theorem Lx.lw (T:Lx w0 w l g p D L A):Lw w0 w l g p D L:=by
 obtain ⟨F,G,V,h1,h2,h3,h4,_⟩:=T
 exact ⟨F,G,V,h1,h2,h3,h4⟩
theorem Lx.nw (T:Lx w0 w l g p D L A) (k:Nw w w1):Lx w0 w1 l g p D L A:=by
 obtain ⟨F,G,V,h1,h2,h3,h4,h5⟩:=T
 exact ⟨F,G,V,h1.nw k,h2,h3,h4.nw k,h5⟩
/-- The row has grown. -/
theorem Lx.push {A':Option Addr} (T:Lx w0 w l g p D L A) (k:Kp (blk A) w w1) (hA:A' = A ∨ A' = some ⟨w.heap.size,0,none⟩ ∧ w.heap.size < w1.heap.size):Lx w0 w1 l g p D L A':=by
 obtain ⟨F,G,V,h1,h2,h3,h4,h5⟩:=T
 have hb:∀ i,blk A' i → blk A i ∨ i = w.heap.size ∧ w.heap.size < w1.heap.size:=fun i hi => by
  rcases hA with rfl | ⟨rfl,e⟩
  ·exact .inl hi
  ·exact .inr ⟨hi,e⟩
 refine ⟨F,G,fun i => V i ∨ blk A' i,⟨h1.dk.kp k fun i hf hi => (h5 i hi).2.1 hf,h1.lg.step k (fun i hi => ⟨(h5 i hi).1,(h5 i hi).2.2⟩) (fun i hi => hi.elim .inl fun e => (hb i e).elim (fun e => .inl (h5 i e).1) fun e => .inr ⟨by omega,by omega⟩) fun i hi => .inl hi,fun i hi => .inl (h1.fv i hi),h1.dj⟩,h2,fun i hi => hi.elim (h3 i) fun e => (hb i e).elim (fun e => h3 i (h5 i e).1) fun e => by have:=h4.size; omega,h4.at_ k fun i hi => h3 i (h5 i hi).1,fun i hi => ⟨.inr hi,fun hf => ?_,fun hg => ?_⟩⟩
 ·rcases hb i hi with e | e
  ·exact (h5 i e).2.1 hf
  ·have:=h1.dk.lt i hf; omega
 ·rcases hb i hi with e | e
  ·exact (h5 i e).2.2 hg
  ·have:=h1.lg.lt i (h1.lg.gv i hg); omega
theorem Lx.append {e:TypeId} {n c:Nat} {xs:List Value} (T:Lx w0 w l g p D L A) (hA:Ow w e 1 A n c xs) (hp:p.length ≤ 20) (b:List UInt8) (X:Option Addr) (x:Nat) (hX:Rd w0 X (b.map u8)) (hx:b.length ≤ x) (hb:b.length ≤ 140737488355328) :
  Cal Tryz.prog 57 #[.pointer (some ⟨l,0,none⟩),.slice X b.length x] w fun v w' => v = .tuple #[i64 (lApp D p L b).2.2.1,i64 (lApp D p L b).2.2.2] ∧ Lx w0 w' l g p (lApp D p L b).1 (lApp D p L b).2.1 A ∧ Ow w' e 1 A n c xs:=by
 obtain ⟨F,G,V,h1,h2,h3,h4,h5⟩:=T
 refine (lapp_spec l g p D L F G V b X x w h1 hp h2 (hX.nw h4) (hX.ofl fun k hk => h3 k hk) hx hb).mono ?_
 rintro v w' ⟨e,F1,G1,V1,h1',ch⟩
 refine ⟨e,⟨F1,G1,V1,h1',lApp_ok h2 D p b,fun k hk => (ch.gV k hk).elim (h3 k) fun e => Nat.le_trans h4.size e.1,h4.at_ ch.kp fun k hk => hk.elim (fun e => h3 k (h1.fv k e)) fun e => h3 k (h1.lg.gv k e),fun k hk => ⟨ch.vv k (h5 k hk).1,fun hf => ?_,fun hg => ?_⟩⟩,hA.kp ch.kp (Off.of_blk fun i hi e => e.elim (h5 i hi).2.1 (h5 i hi).2.2)⟩
 ·have:=h1.lg.lt k (h5 k hk).1
  exact (ch.gF k hf).elim (h5 k hk).2.1 fun e => by omega
 ·have:=h1.lg.lt k (h5 k hk).1
  exact (ch.gG k hg).elim (h5 k hk).2.2 fun e => by omega
theorem Lx.disk {e:TypeId} {n c:Nat} {xs:List Value} {k:FuncId} {args:Array Value} {u:Value} (T:Lx w0 w l g p D L A) (hA:Ow w e 1 A n c xs)
  (h:∀ F,Dk w g D F → Cal Tryz.prog k args w fun v w' => v = u ∧ ∃ F',Dk w' g D' F' ∧ Gr F F' w w' ∧ Kp F w w'):Cal Tryz.prog k args w fun v w' => v = u ∧ Lx w0 w' l g p D' L A ∧ Ow w' e 1 A n c xs:=by
 obtain ⟨F,G,V,h1,h2,h3,h4,h5⟩:=T
 refine (h F h1.dk).mono ?_
 rintro v w' ⟨hv,F',hD,hG,hK⟩
 obtain ⟨h1',gV⟩:=h1.disk hD hG hK
 refine ⟨hv,⟨F',G,_,h1',h2,fun k hk => (gV k hk).elim (h3 k) fun e => Nat.le_trans h4.size e.1,h4.at_ hK fun k hk => h3 k (h1.fv k hk),fun k hk => ⟨.inl (h5 k hk).1,fun hf => ?_,(h5 k hk).2.2⟩⟩,hA.kp hK (Off.of_blk fun i hi e => (h5 i hi).2.1 e)⟩
 have:=h1.lg.lt k (h5 k hk).1
 exact (hG k hf).elim (h5 k hk).2.1 fun e => by omega
end
/-- The log's ends behind each entry. -/
def logB (ps:List (List UInt8)):List UInt8:=recsB (entsP 1 ps)
/-- The log after some entries, and nothing beside it. -/
structure Log0 (D:Dsk) (ps:List (List UInt8)) (u m:Nat):Prop where
 free:Free D u m
 room:D.room = 65536
 file:(fileD D (logN [97])).b = logB ps
 look:ps ≠ [] → ∃ l,tLook D.fs (logN [97]) = some ⟨logB ps,l⟩
 else_:∀ t,t ≠ logN [97] → tLook D.fs t = none
theorem Log0.push {D:Dsk} {ps:List (List UInt8)} {u m:Nat} (h:Log0 D ps u m) (b:List UInt8) (hb:b.length ≤ 65536) (hu:u + b.length + 30 ≤ 65536) (hm:m < 4096) (h40:ps.length < 1099511627776) :
  ∃ D',lApp D [97] ⟨0,[],ps,false⟩ b = (D',⟨0,[],ps ++ [b],false⟩,ps.length + 1,0) ∧ Log0 D' (ps ++ [b]) (u + b.length + 30) (m + 1) ∧ tLook D'.fs (logN [97]) = some ⟨logB (ps ++ [b]),(logB (ps ++ [b])).length⟩:=by
 have hll:(⟨0,[],ps,false⟩:Led).last = ps.length:=by simp [Led.last]
 obtain ⟨D',e,f,r,x,o⟩:=lApp_out (p:=[97]) (L:=⟨0,[],ps,false⟩) (b:=b) h.free (by simp) rfl (by rw [hll]; exact h40) hb (by rw [h.room]; exact hu) hm
 rw [hll] at e x
 have hf:(fileD D (logN [97])).b ++ entB (ps.length + 1) b = logB (ps ++ [b]):=by
  rw [h.file]
  unfold logB
  rw [ents_push,Nat.add_comm 1]
 rw [hf] at x
 exact ⟨D',e,⟨f,r.trans h.room,by unfold fileD; rw [x]; rfl,fun _ => ⟨_,x⟩,fun t ht => by rw [o t ht,h.else_ t ht]⟩,x⟩
theorem Dw.ok {w0 w:World} {g:Nat} {D:Dsk} (T:Dw w0 w g D):D.Ok:=by
 obtain ⟨F,h1,h2,h3⟩:=T
 exact h1.ok
/-- Two ledgers on one disk. -/
def L2 (w0 w:World) (g:Nat) (D:Dsk) (l1:Nat) (p1:Nm) (L1:Led) (l2:Nat) (p2:Nm) (M:Led):Prop:=∃ F G1 G2 V,LS w l1 g p1 D L1 F G1 V ∧ LS w l2 g p2 D M F G2 V ∧ (∀ k,G1 k → ¬ G2 k) ∧ L1.Ok ∧ M.Ok ∧ (∀ k,V k → w0.heap.size ≤ k) ∧ Nw w0 w
section
variable {w0 w w1:World} {g l1 l2:Nat} {p1 p2:Nm} {D D':Dsk} {L1 L1' M:Led}
theorem L2.nw (T:L2 w0 w g D l1 p1 L1 l2 p2 M) (k:Nw w w1):L2 w0 w1 g D l1 p1 L1 l2 p2 M:=by
 obtain ⟨F,G1,G2,V,a1,a2,dj,o1,o2,h3,h4⟩:=T
 exact ⟨F,G1,G2,V,a1.nw k,a2.nw k,dj,o1,o2,h3,h4.nw k⟩
theorem L2.lw (T:L2 w0 w g D l1 p1 L1 l2 p2 M):Lw w0 w l1 g p1 D L1:=by
 obtain ⟨F,G1,G2,V,a1,a2,dj,o1,o2,h3,h4⟩:=T
 exact ⟨F,G1,V,a1,o1,h3,h4⟩
theorem L2.step {k:FuncId} {args:Array Value} {u:Value} (T:L2 w0 w g D l1 p1 L1 l2 p2 M) (k1:Nw w w1) (ok:L1'.Ok)
  (h:∀ F G V,LS w l1 g p1 D L1 F G V → LS w1 l1 g p1 D L1 F G V → (∀ k,V k → w0.heap.size ≤ k) → Cal Tryz.prog k args w1 fun v w' => v = u ∧ ChR w1 w' l1 g p1 D' L1' F G V):Cal Tryz.prog k args w1 fun v w' => v = u ∧ L2 w0 w' g D' l1 p1 L1' l2 p2 M:=by
 obtain ⟨F,G1,G2,V,a1,a2,dj,o1,o2,h3,h4⟩:=T
 refine (h F G1 V a1 (a1.nw k1) h3).mono ?_
 rintro v w' ⟨hv,F',G1',V',b1,ch⟩
 have a2:=a2.nw k1
 have n1:=h4.nw k1
 refine ⟨hv,F',G1',G2,V',b1,⟨b1.dk,a2.lg.step ch.kp (fun i hi => ⟨hi.elim (a1.fv i) (a1.lg.gv i),fun hg => hi.elim (fun e => a2.dj i e hg) (fun e => dj i e hg)⟩) ch.gV ch.vv,b1.fv,fun i hf hg => (ch.gF i hf).elim (fun e => a2.dj i e hg) (fun e => by have:=a2.lg.lt i (a2.lg.gv i hg); omega)⟩,fun i h1 h2 => (ch.gG i h1).elim (fun e => dj i e h2) (fun e => by have:=a2.lg.lt i (a2.lg.gv i h2); omega),ok,o2,fun k hk => (ch.gV k hk).elim (h3 k) fun e => Nat.le_trans n1.size e.1,n1.at_ ch.kp fun k hk => hk.elim (fun e => h3 k (a1.fv k e)) fun e => h3 k (a1.lg.gv k e)⟩
theorem L2.ok1 (T:L2 w0 w g D l1 p1 L1 l2 p2 M):L1.Ok:=T.lw.lok
theorem own_ofl {X:Option Addr} {b:List UInt8} {V:Nat → Prop} (hX:∀ k,blk X k → w.heap.size ≤ k) (hV:∀ k,V k → k < w.heap.size):Ofl X (b.map u8) V:=by
 intro a ha _ hv
 have e1:=hX a.block (by rw [ha]; rfl)
 have e2:=hV _ hv
 omega
theorem L2.append (T:L2 w0 w g D l1 p1 L1 l2 p2 M) (hp:p1.length ≤ 20) (k1:Nw w w1) (b:List UInt8) (X:Option Addr) (x:Nat) (hr:Rd w1 X (b.map u8)) (hX:∀ k,blk X k → w.heap.size ≤ k) (hx:b.length ≤ x) (hb:b.length ≤ 140737488355328) :
  Cal Tryz.prog 57 #[.pointer (some ⟨l1,0,none⟩),.slice X b.length x] w1 fun v w' => v = .tuple #[i64 (lApp D p1 L1 b).2.2.1,i64 (lApp D p1 L1 b).2.2.2] ∧ L2 w0 w' g (lApp D p1 L1 b).1 l1 p1 (lApp D p1 L1 b).2.1 l2 p2 M :=
 T.step k1 (lApp_ok T.ok1 D p1 b) fun F G V h0 h1 _ => lapp_spec l1 g p1 D L1 F G V b X x w1 h1 hp T.ok1 hr (own_ofl hX h0.lg.lt) hx hb
theorem Lg.wide0 {l:Nat} {p:Nm} {G V V':Nat → Prop} (h:Lg w l g p Led.zero G V) (hV:∀ k,V k → V' k) (hl:∀ k,V' k → k < w.heap.size):Lg w l g p Led.zero G V':=by
 obtain ⟨B,d,A,c,vs,hb,hr,ho,hd,hA,hv,hAl,h1,h2,h3⟩:=h
 exact ⟨B,d,A,c,vs,hb,hr,fun a ha hx => absurd rfl hx,hd,hA,⟨hv.1,fun i hi => absurd hi (Nat.not_lt_zero i)⟩,hAl,h1,fun k hk => hV k (h2 k hk),hl⟩
end
/-- Only the two logs are there. -/
structure Ap (D:Dsk) (a b:Nm) (u m:Nat):Prop where
 free:Free D u m
 room:D.room = 65536
 els:∀ t,t ≠ logN a → t ≠ logN b → tLook D.fs t = none
theorem Ap.push {D:Dsk} {a b p:Nm} {L:Led} {c:UInt8} {u m:Nat} (h:Ap D a b u m) (hp:p = a ∨ p = b) (hpl:p.length ≤ 20) (hd:L.dead = false) (h40:L.last < 1099511627776) (hu:u ≤ 10000) (hm:m ≤ 100) :
  ∃ D',lApp D p L [c] = (D',{ L with ents:=L.ents ++ [[c]] },L.last + 1,0) ∧ Ap D' a b (u + 31) (m + 1):=by
 obtain ⟨D',e,f,r,x,o⟩:=lApp_out (p:=p) (L:=L) (b:=[c]) h.free hpl hd h40 (by simp) (by rw [h.room]; simp; omega) (by omega)
 refine ⟨D',e,by simpa [Nat.add_comm] using f,r.trans h.room,fun t h1 h2 => ?_⟩
 rw [o t (by rcases hp with rfl | rfl <;> assumption),h.els t h1 h2]
/-- What opening the reference's store on a fresh disk comes to. -/
def ROpen0 (w w':World) (v:Value) (x:Nat) (F:Nat → Prop):Prop:=∃ q l F' G V,v = .tuple #[.pointer (some ⟨q,0,none⟩),i64 0] ∧ Blk w' q 123 #[.slice none 0 0,i64 1,.pointer (some ⟨l,0,none⟩),.bool false] ∧ RS w' l x mailN Dsk.fresh Led.zero F' G V ∧ Gr F V w w' ∧ Kp F w w' ∧ ¬ V q ∧ w.heap.size ≤ q
theorem rsopen0_spec (x:Nat) (F:Nat → Prop) (w:World) (h:RefD w x Dsk.fresh F) (hFl:∀ k,F k → k < w.heap.size):Cal Tryz.prog 27 #[.pointer (some ⟨x,0,none⟩)] w fun v w' => ROpen0 w w' v x F:=by
 refine enter Tryz.mixed Tryz.func27 rfl (by kernel_rfl) ?_
 simp -dsimp [go_sem]
 refine call (ropen_spec x mailN Dsk.fresh F w h Dsk.fresh_ok hFl (by decide) (by decide)) ?_
 rw [fresh_open]
 rintro v w1 ⟨F1,hD1,gF1,kF1,⟨hne,_⟩ | ⟨_,l,G1,V1,rfl,hL1,okL,gV1⟩⟩
 ·exact absurd rfl hne
 simp only at hD1 hL1 okL
 obtain ⟨B,d,A,c,vs,hb,hr,hoB,hd,hA,hv,hAl,a1,a2,a3⟩:=id hL1.lg
 have hV1l:∀ k,V1 k → k < w1.heap.size:=a3
 have ka:Nw w1 (w1.alloc (.cells #[.slice none 0 0,i64 1,.pointer (some ⟨l,0,none⟩),.bool false] 123)):=(Kp.refl _ _).alloc _
 have hq:=Blk.new w1 123 #[.slice none 0 0,i64 1,.pointer (some ⟨l,0,none⟩),.bool false]
 have hb2:=hb.nw ka
 have l2:=hb2.cell 2
 have l3:=hb2.cell 3
 have l4:=hb2.cell 4
 have e1:Led.zero.base = 0:=rfl
 have e2:Led.zero.data.length = 0:=rfl
 have e3:Led.zero.ents.length = 0:=rfl
 rw [e1] at l2
 rw [e2] at l3
 rw [e3] at l4
 simp -dsimp [go_sem]
 simp [go_sem,l2,l3]
 refine loop [2,3,7,8,9,10,11,43,44,45,46,47,48,49,50,51,52,53,54,55,56,57,58,59,60,61,62,63,64,65,66,67,68,69,70,71,72] (by kernel_rfl)
  (fun f w' => Box1 (fun a w' => a = i64 0 ∧ w' = (w1.alloc (.cells #[.slice none 0 0,i64 1,.pointer (some ⟨l,0,none⟩),.bool false] 123))) (f 7) w') (fun f _ => 0) ⟨rfl,rfl⟩ ?_
 rintro f w' ⟨f7,rfl⟩
 simp -dsimp [go_sem,f7,l4]
 exact ⟨w1.heap.size,l,F1,G1,V1,rfl,hq,hL1.nw ka,Gr.wide gV1 (Nat.le_refl _) ka.size,kF1.nw ka,fun e => by have:=hV1l _ e; omega,kF1.size⟩
/-- What begin comes to. -/
def BeginR (w w':World) (v:Value):Prop:=∃ p g x s t l q l2 F2 G2 V2,v = .pointer (some ⟨p,0,none⟩) ∧ Blk w' p 49 #[.pointer (some ⟨g,0,none⟩),.pointer (some ⟨x,0,none⟩),.pointer (some ⟨s,0,none⟩),.pointer (some ⟨q,0,none⟩)] ∧
 Sm w w' s g l t Sto.fresh (fun k => k = q ∨ V2 k) (fun k => k = p) ∧ Blk w' q 123 #[.slice none 0 0,i64 1,.pointer (some ⟨l2,0,none⟩),.bool false] ∧ RS w' l2 x mailN Dsk.fresh Led.zero F2 G2 V2 ∧ (∀ k,V2 k → w.heap.size ≤ k) ∧ ¬ V2 q ∧ p ≠ q ∧ ¬ V2 p ∧ w.heap.size ≤ p ∧ w.heap.size ≤ q
/-- A store of nothing reads nothing: what may turn beside it is free. -/
theorem StM.wide0 {w:World} {s g l t:Nat} {F G FS V V':Nat → Prop} (h:StM w s g l t Sto.fresh F G FS V) (hV:∀ k,V k → V' k) (hl:∀ k,V' k → k < w.heap.size):StM w s g l t Sto.fresh F G FS V':=by
 obtain ⟨r,ptr,rb,vb,Fs,hM⟩:=h.st
 exact ⟨h.blk,⟨h.ls.dk,Lg.wide0 h.ls.lg hV hl,fun i hi => hV i (h.ls.fv i hi),h.ls.dj⟩,h.lok,⟨r,ptr,rb,vb,Fs,hM.blk,hM.mp,fun s u h => (by cases h),hM.apart,hM.inn,hM.ne,hM.ft,hM.fr,hM.lt,fun k hk => hV k (hM.fv k hk)⟩,h.apF,hV _ h.sv,h.sap⟩
theorem refd_lt {w:World} {x:Nat} {D:Dsk} {F:Nat → Prop} (h:RefD w x D F):∀ k,F k → k < w.heap.size:=by
 obtain ⟨L,A,c,Q,h1,h2⟩:=h
 exact h2.lt
theorem begin_spec (w:World):Cal Tryz.prog 15 #[] w fun v w' => BeginR w w' v:=by
 refine enter Tryz.mixed Tryz.func15 rfl (by kernel_rfl) ?_
 simp -dsimp [go_sem]
 refine call (new_spec 268435456 w) ?_
 rintro v w1 (⟨h,_⟩ | ⟨_,_,g,F,rfl,hD,nF,k1⟩)
 ·omega
 have hD:Dk w1 g Dsk.fresh F:=hD
 simp -dsimp [go_sem]
 refine call (rnew_spec 268435456 w1) ?_
 rintro v w2 (⟨h,_⟩ | ⟨_,_,x,Fx,rfl,hX,nX,k2⟩)
 ·omega
 have hX:RefD w2 x Dsk.fresh Fx:=hX
 have hFl:=hD.lt
 have hXl:=refd_lt hX
 simp -dsimp [go_sem]
 refine call (sopen0_spec g F w2 (hD.nw k2)) ?_
 rintro v w3 ⟨s,l,t,F3,G3,FS,V,rfl,hS,gV,k3⟩
 have hX3:RefD w3 x Dsk.fresh Fx:=hX.kp k3 fun i hi hf => by have:=hFl i hf; have:=nX i hi; omega
 simp -dsimp [go_sem]
 refine call (rsopen0_spec x Fx w3 hX3 (refd_lt hX3)) ?_
 rintro v w4 ⟨q,l2,F2,G2,V2,rfl,hq,hR,gV2,k4,hqV,hqw⟩
 have hV3:=hS.lt
 have s12:=k1.size
 have s23:=k2.size
 have s34:=k3.size
 have s45:=k4.size
 have dj:∀ k,V k → ¬ Fx k:=fun k hv hf => by
  have:=nX k hf
  have:=hXl k hf
  rcases gV k hv with e | e
  ·have:=hFl k e; omega
  ·omega
 have hS3:=hS.wide0 (V':=fun k => V k ∨ Fx k) (fun k hk => .inl hk) fun k hk => hk.elim (hV3 k) fun e => by have:=hXl k e; omega
 have hV2l:∀ k,V2 k → k < w4.heap.size:=hR.lg.lt
 have hqn:=hq.lt
 have fS:∀ k,Fx k → ¬ F3 k ∧ ¬ G3 k ∧ ¬ FS k ∧ k ≠ s:=fun k hk => ⟨fun e => dj k (hS.fv k e) hk,fun e => dj k (hS.gv k e) hk,fun e => dj k (hS.fsv k e) hk,fun e => dj s hS.sv (e ▸ hk)⟩
 have h4:=hS3.step (V':=fun k => (V k ∨ Fx k) ∨ k = q ∨ V2 k) k4 (fun i hi => ⟨.inr hi,fS i hi⟩) (fun i hi => by
  rcases hi with hi | hi | hi
  ·exact .inl hi
  ·exact .inr ⟨by omega,by omega⟩
  ·exact (gV2 i hi).imp .inr id) fun i hi => .inl hi
 have nX':∀ k,Fx k → w.heap.size ≤ k:=fun k hk => by have:=nX k hk; omega
 have n4:Nw w w4:=((k1.nw k2).at_ k3 nF).at_ k4 nX'
 have hV2n:∀ k,V2 k → w.heap.size ≤ k:=fun k hk => (gV2 k hk).elim (nX' k) fun e => by omega
 have hVn:∀ k,V k → w.heap.size ≤ k:=fun k hk => (gV k hk).elim (nF k) fun e => by omega
 have m4:Sm w w4 s g l t Sto.fresh (fun k => k = q ∨ V2 k) (fun _ => False):=by
  refine ⟨F3,G3,FS,_,h4,fun k hk => ?_,n4,fun k hk => ⟨.inr hk,?_⟩,fun k hk => hk.elim⟩
  ·rcases hk with (hk | hk) | hk | hk
   ·exact hVn k hk
   ·exact nX' k hk
   ·omega
   ·exact hV2n k hk
  ·have hnew:w3.heap.size ≤ k → ¬ F3 k ∧ ¬ G3 k ∧ ¬ FS k ∧ k ≠ s:=fun hk => ⟨fun e => by have:=hV3 k (hS.fv k e); omega,fun e => by have:=hV3 k (hS.gv k e); omega,fun e => by have:=hV3 k (hS.fsv k e); omega,fun e => by have:=hS.sl; omega⟩
   rcases hk with hk | hk
   ·exact hnew (by omega)
   ·rcases gV2 k hk with e | e
    ·exact fS k e
    ·exact hnew e.1
 simp -dsimp [go_sem]
 have ka:Nw w4 (w4.alloc (.cells #[.pointer (some ⟨g,0,none⟩),.pointer (some ⟨x,0,none⟩),.pointer (some ⟨s,0,none⟩),.pointer (some ⟨q,0,none⟩)] 49)):=(Kp.refl _ _).alloc _
 have hp:=Blk.new w4 49 #[.pointer (some ⟨g,0,none⟩),.pointer (some ⟨x,0,none⟩),.pointer (some ⟨s,0,none⟩),.pointer (some ⟨q,0,none⟩)]
 have hpl:=hp.lt
 exact ⟨w4.heap.size,g,x,s,t,l,q,l2,F2,G2,V2,rfl,hp,m4.more ka (fun i hi => .inl hi) (fun i (e:i = w4.heap.size) => .inr ⟨by omega,by omega⟩) (fun i hi (e:i = w4.heap.size) => by
  rcases hi with hi | hi
  ·omega
  ·have:=hV2l i hi; omega),hq.nw ka,hR.nw ka,hV2n,hqV,by omega,fun e => by have:=hV2l _ e; omega,by omega,by omega⟩
section
variable {w0 w:World} {s g l t:Nat} {S:Sto} {U E:Nat → Prop}
theorem Sm.do (h:Sm w0 w s g l t S U E) (hT:S.T.Ok) {v:Value} {c:Chg} (hc:RC w v c (fun _ => False)) (hs:CSz c) (hu:c.uids.length ≤ 1000000000) :
  Cal Tryz.prog 16 #[.pointer (some ⟨s,0,none⟩),v] w fun v' w' => v' = .tuple #[i64 (doA S c).2.1,i64 (doA S c).2.2] ∧ Sm w0 w' s g l t (doA S c).1 U E ∧ Kp (Fu w0 U E) w w':=by
 obtain ⟨F,G,FS,V,h1,h2,h3,h4,h5⟩:=h
 refine (do_spec v c w h1 hT hc hs hu).mono ?_
 rintro v' w' ⟨e,d⟩
 exact ⟨e,Sm.of h1 h2 h3 h4 h5 d⟩
/-- Whether a user has a pass. -/
def chk (T:Stt) (n p:Nm):Bool:=match tLook T.us n with | none => false | some u => decide (u.pass = p)
theorem Sm.check (h:Sm w0 w s g l t S U E) (n p:Nm) :
  Cal Tryz.prog 47 #[.pointer (some ⟨s,0,none⟩),str n,str p] w fun v w' => v = .bool (chk S.T n p) ∧ w' = w:=by
 obtain ⟨F,G,FS,V,h1,h2,h3,h4,h5⟩:=h
 exact check_spec h1.blk h1.st n p
theorem Sm.dead (h:Sm w0 w s g l t S U E):Cal Tryz.prog 29 #[.pointer (some ⟨s,0,none⟩)] w fun v w' => v = .bool S.dead ∧ w' = w:=by
 obtain ⟨F,G,FS,V,h1,h2,h3,h4,h5⟩:=h
 exact dead_spec h1.blk
end
/-- A change with no rows, as the statements lay it. -/
theorem rc_plain (w:World) (k:Int) (us ps bx to:Nm) (m f d:Int):RC w (.agg #[i64 k,str us,str ps,str bx,str to,.slice none 0 0,i64 m,i64 f,i64 d,.slice none 0 0]) ⟨k,us,ps,bx,to,[],m,f,d,[]⟩ (fun _ => False) :=
 ⟨none,0,none,0,rfl,Nat.le_refl _,Nat.le_refl _,Rd.nil _ _,fun _ _ h => absurd rfl h,Rd.nil _ _,fun _ _ h => absurd rfl h⟩
theorem Fu.at_p {w0 w w':World} {U E:Nat → Prop} {p:Nat} {ty:TypeId} {cs:Array Value} (h:Blk w p ty cs) (k:Kp (Fu w0 U E) w w') (hE:E p):Blk w' p ty cs:=h.kp k fun e => e.2.2 hE
theorem stknown_spec (w:World):Cal Tryz.prog 13 #[] w fun v w' => v = .bool true ∧ Nw w w':=by
 refine enter Tryz.mixed Tryz.func13 rfl (by kernel_rfl) ?_
 simp -dsimp [go_sem]
 refine call (begin_spec w) ?_
 rintro v w1 ⟨p,g,x,s,t,l,q,l2,F2,G2,V2,rfl,hp,hS,_⟩
 have p2:=hp.cell 2
 obtain ⟨o1,e1,e2,e3⟩:=known_one
 rcases Sf.fresh.step knownU (by omega) (by omega) (by omega) with ⟨h,_⟩ | ⟨_,h,_⟩ | ⟨_,_,S1,d1,t1,f1⟩
 ·rw [o1] at h; cases h
 ·exact absurd e1 h
 have e2:(plan Sto.fresh.T knownU).2.1 = 0:=e2
 have e3:(plan Sto.fresh.T knownU).2.2 = ⟨2,[([97],⟨[112],[(inboxN,newB inboxN 1)]⟩)]⟩:=e3
 rw [e2] at d1
 rw [e3] at t1
 obtain ⟨o2,a1,a2,a3⟩:=known_two
 rw [← t1] at a1 a2 a3
 rcases f1.step knownA (by omega) (by omega) (by omega) with ⟨h,_⟩ | ⟨_,h,_⟩ | ⟨_,_,S2,d2,t2,f2⟩
 ·rw [o2] at h; cases h
 ·exact absurd a1 h
 rw [a2] at d2
 rw [← t2] at a3
 simp -dsimp [go_sem,p2]
 simp [go_sem]
 refine call (hS.do Stt.Ok.zero (rc_plain w1 1 [97] [112] [] [] 0 0 0) (chgOk_ok o1).sz (by simp)) ?_
 have ed1:doA Sto.fresh ⟨1,[97],[112],[],[],[],0,0,0,[]⟩ = (S1,0,0):=d1
 rw [ed1]
 rintro v w2 ⟨rfl,hS2,k2⟩
 have hp2:=Fu.at_p hp k2 rfl
 have p22:=hp2.cell 2
 simp -dsimp [go_sem,p22]
 simp [go_sem]
 refine call (hS2.do f1.tok (rc_plain w2 5 [97] [] inboxN [] 0 0 0) (chgOk_ok o2).sz (by simp)) ?_
 have ed2:doA S1 ⟨5,[97],[],inboxN,[],[],0,0,0,[]⟩ = (S2,1,0):=d2
 rw [ed2]
 rintro v w3 ⟨rfl,hS3,k3⟩
 have hp3:=Fu.at_p hp2 k3 rfl
 have p23:=hp3.cell 2
 simp -dsimp [go_sem,p23]
 refine call (hS3.check [97] [112]) ?_
 rintro v w4 ⟨rfl,rfl⟩
 have c1:chk S2.T [97] [112] = true:=by unfold chk; rw [a3]; rfl
 have c2:chk S2.T [97] [113] = false:=by unfold chk; rw [a3]; rfl
 rw [c1]
 simp -dsimp [go_sem,p23]
 refine call (hS3.check [97] [113]) ?_
 rintro v w5 ⟨rfl,rfl⟩
 rw [c2]
 simp -dsimp [go_sem]
 exact hS3.on
/-- The names of a user's boxes; a user's box. -/
def bxsL (T:Stt) (n:Nm):List Nm:=match tLook T.us n with | none => [] | some u => keysA u.bx
/-- A row of names, new. -/
def NmsR (w w':World) (v:Value) (l:List Nm):Prop:=∃ A c,v = .slice A l.length c ∧ Rd w' A (l.map fun s => str s) ∧ l.length ≤ c ∧ ∀ a,A = some a → w.heap.size ≤ a.block
section
variable {w0 w:World} {s g l t:Nat} {S:Sto} {U E:Nat → Prop}
theorem Sm.boxes (h:Sm w0 w s g l t S U E) (ok:S.T.Ok) (n:Nm):Cal Tryz.prog 61 #[.pointer (some ⟨s,0,none⟩),str n] w fun v w' => Nw w w' ∧ NmsR w w' v (bxsL S.T n):=by
 obtain ⟨F,G,FS,V,h1,h2,h3,h4,h5⟩:=h
 obtain ⟨r,ptr,rb,vb,Fs,hM⟩:=h1.st
 refine enter Tryz.mixed Tryz.func61 rfl (by kernel_rfl) ?_
 simp -dsimp [go_sem]
 refine call (user_spec h1.blk hM n) ?_
 rintro v w' ⟨rfl,rfl⟩
 cases hu:tLook S.T.us n with
 | none =>
  rw [show Mu ptr S.T.us n = none by simp [Mu,hu],show bxsL S.T n = [] by unfold bxsL; rw [hu]]
  simp -dsimp [go_sem]
  exact ⟨Kp.refl _ _,none,0,rfl,Rd.nil _ _,Nat.le_refl _,by simp⟩
 | some u =>
  rw [show Mu ptr S.T.us n = some (.pointer (some ⟨ptr n,0,none⟩)) by simp [Mu,hu],show bxsL S.T n = keysA u.bx by unfold bxsL; rw [hu]]
  have hUO:=(ok.us _ _ hu).2
  obtain ⟨hU,_⟩:=hM.us _ _ hu
  have p1:=hU.blk.cell 1
  have hl:=hUO.len
  simp -dsimp [go_sem,p1]
  refine call (keysB_spec (rb n) (Mb (vb n) u.bx) (keysA u.bx) w' hU.mp (keysA_lt hUO.srt) (Mb_some (vb n) u.bx) (by rw [keysA_len]; omega)) ?_
  rintro v w2 ⟨k2,A,ca,rfl,hr,hc,hA⟩
  simp -dsimp [go_sem]
  exact ⟨k2,A,ca,rfl,hr,hc,hA⟩
theorem OB.zero (w:World) (B:Nat):OB w (.agg #[.string ⟨#[]⟩,i64 0,i64 0,.slice none 0 0]) ⟨⟨#[]⟩,0,0,[]⟩ B:=⟨_,rfl,OL.nil _ _⟩
end
end Go.Proofs.YtellahclbhfdiaaGreatDoor
namespace Go.Vc
set_option linter.unusedSimpArgs false
set_option linter.unusedVariables false
open Go.Deep Go.ChangeShapes Go.WideShapes Go.ChangeAt Go.RowKit Go.ChangeMaps
section
variable {H:Type} {enc:TypeId × Value → H} {P:Program} {W:World} {base:Nat} {spare:Nat → Bool} {held:Bool}
theorem sz_strT {fuel:Nat} {t:TypeId} {cs:List Value} {x:DataW H × List MemPlace} (ht:P.underlying t = some .string) (hz:Sz P t x.1) (h:DataW.trod enc P W base spare held fuel t cs = some x):∃ s:List UInt8,cs = [.string ⟨s.toArray⟩] ∧ s.length ≤ reachBytes:=by
 obtain ⟨s,rfl,rfl,_⟩:=DataW.trod_string ht h
 refine ⟨s.data.toList,by simp,?_⟩
 exact hz s.data.toList.length (by rw [DataW.weights]; simp)
end
end Go.Vc
namespace Go.Proofs.YtellahclbhfdiaaGreatDoor
set_option linter.unusedSimpArgs false
set_option linter.unusedVariables false
set_option maxRecDepth 100000
open Go.Vc Go.Deep Go.ChangeShapes Go.WideShapes Go.ChangeAt Go.RowKit Go.ChangeMaps
/-- A change, and the slices that its rows lie in. -/
abbrev CQ:=Chg × Value × Value
def ccells (p:CQ):List Value:=[i64 p.1.kind,str p.1.user,str p.1.pass,str p.1.box,str p.1.to,p.2.1,i64 p.1.mode,i64 p.1.flags,i64 p.1.date,p.2.2]
/-- A change as an argument has it. -/
def ChgG (W:World) (p:CQ):Prop:=RdI W p.2.1 p.1.uids ∧ RdB W p.2.2 p.1.body (fun _ => False) ∧ p.1.user.length ≤ 140737488355328 ∧ p.1.pass.length ≤ 140737488355328 ∧ p.1.box.length ≤ 140737488355328 ∧ p.1.to.length ≤ 140737488355328 ∧ p.1.uids.length ≤ 140737488355328 ∧ p.1.body.length ≤ 140737488355328 ∧
 I64 p.1.kind ∧ I64 p.1.mode ∧ I64 p.1.flags ∧ I64 p.1.date ∧ ∀ n ∈ p.1.uids,I64 n
theorem ChgG.nw {w w':World} {p:CQ} (h:ChgG w p) (k:Nw w w'):ChgG w' p:=⟨h.1.nw k,h.2.1.nw k,h.2.2⟩
theorem ChgG.rc {w:World} {p:CQ} (h:ChgG w p):RC w (.agg (ccells p).toArray) p.1 (fun _ => False):=by
 obtain ⟨⟨A,ca,e1,h1,h2⟩,⟨B,cb,e2,h3,h4,h5⟩,_⟩:=h
 refine ⟨A,ca,B,cb,?_,h2,h5,h1,fun _ _ _ h => h,h3,h4⟩
 unfold ccells
 rw [e1,e2]
section
variable {H:Type} {enc:TypeId × Value → H} {P:Program} {W:World} {base:Nat} {spare:Nat → Bool} {held:Bool}
theorem trod_chg {t ti ts tl tb tu:TypeId} {fuel:Nat} {cs:List Value} {x:DataW H × List MemPlace} (hu:(P.underlying t).map flds = some [(ti,0),(ts,1),(ts,2),(ts,3),(ts,4),(tl,5),(ti,6),(ti,7),(ti,8),(tb,9)]) (hi:P.underlying ti = some (.int .i64)) (hs:P.underlying ts = some .string) (hl:P.underlying tl = some (.slice ti)) (hb:P.underlying tb = some (.slice tu)) (hu8:P.underlying tu = some (.int .u8))
  (ci:P.cellsOf ti = 1) (cs':P.cellsOf ts = 1) (cl:P.cellsOf tl = 1) (cb:P.cellsOf tb = 1) (cu:P.cellsOf tu = 1) (ct:P.cellsOf t = 10) (bi:P.bytesOf ti = 8) (bu:P.bytesOf tu = 1) (hz:Sz P t x.1) (h:DataW.trod enc P W base spare held fuel t cs = some x):∃ p:CQ,cs = ccells p ∧ (ccells p).length = 10 ∧ ChgG W p:=by
 obtain ⟨hlen,n,hf⟩:=trod_flds_z hu (by simp) hz h
 rw [ct] at hlen
 match cs,hlen with
 | [v0,v1,v2,v3,v4,v5,v6,v7,v8,v9],_ =>
  obtain ⟨y0,h0,_⟩:=hf 0 _ rfl
  obtain ⟨y1,h1,s1⟩:=hf 1 _ rfl
  obtain ⟨y2,h2,s2⟩:=hf 2 _ rfl
  obtain ⟨y3,h3,s3⟩:=hf 3 _ rfl
  obtain ⟨y4,h4,s4⟩:=hf 4 _ rfl
  obtain ⟨y5,h5,s5⟩:=hf 5 _ rfl
  obtain ⟨y6,h6,_⟩:=hf 6 _ rfl
  obtain ⟨y7,h7,_⟩:=hf 7 _ rfl
  obtain ⟨y8,h8,_⟩:=hf 8 _ rfl
  obtain ⟨y9,h9,s9⟩:=hf 9 _ rfl
  simp only [ci,cs',cl,cb] at h0 h1 h2 h3 h4 h5 h6 h7 h8 h9
  obtain ⟨n0,e0,_,w0⟩:=DataW.trod_int hi h0
  obtain ⟨a1,e1,l1⟩:=sz_strT hs s1 h1
  obtain ⟨a2,e2,l2⟩:=sz_strT hs s2 h2
  obtain ⟨a3,e3,l3⟩:=sz_strT hs s3 h3
  obtain ⟨a4,e4,l4⟩:=sz_strT hs s4 h4
  obtain ⟨A,c,zs,e5,hr5,hc5,hm5,hz5⟩:=trod_nums hl hi ci h5
  obtain ⟨n6,e6,_,w6⟩:=DataW.trod_int hi h6
  obtain ⟨n7,e7,_,w7⟩:=DataW.trod_int hi h7
  obtain ⟨n8,e8,_,w8⟩:=DataW.trod_int hi h8
  obtain ⟨B,d,xs,e9,hr9,hc9,hm9⟩:=trod_bytes hb hu8 cu h9
  simp at e0 e1 e2 e3 e4 e5 e6 e7 e8 e9
  subst e0; subst e1; subst e2; subst e3; subst e4; subst e5; subst e6; subst e7; subst e8; subst e9
  have l5:=sz_len h5 s5 hl
  have l9:=sz_len h9 s9 hb
  rw [bi] at l5
  rw [bu] at l9
  unfold reachBytes at l1 l2 l3 l4 l5 l9
  exact ⟨(⟨n0,a1,a2,a3,a4,zs,n6,n7,n8,xs⟩,.slice A zs.length c,.slice B xs.length d),rfl,rfl,⟨A,c,rfl,hr5,hc5⟩,⟨B,d,rfl,hr9,fun _ _ _ h => h,hc9⟩,by simp only; omega,by simp only; omega,by simp only; omega,by simp only; omega,by simp only; omega,by simp only; omega,i64_wf w0,i64_wf w6,i64_wf w7,i64_wf w8,fun n hn => i64_wf (hz5 n hn)⟩
theorem arg_chg {r:Reach} {tys:List TypeId} {ds:List (DataW H)} {j:Nat} {t ti ts tl tb tu:TypeId} {v:Value} {d:DataW H} {ps:List MemPlace} (hz:(DataW.weightsEach P tys ds).all (· ≤ reachBytes) = true) (hts:tys[j]? = some t) (hds:ds[j]? = some d)
  (hu:(P.underlying t).map flds = some [(ti,0),(ts,1),(ts,2),(ts,3),(ts,4),(tl,5),(ti,6),(ti,7),(ti,8),(tb,9)]) (hi:P.underlying ti = some (.int .i64)) (hs:P.underlying ts = some .string) (hl:P.underlying tl = some (.slice ti)) (hb:P.underlying tb = some (.slice tu)) (hu8:P.underlying tu = some (.int .u8))
  (ci:P.cellsOf ti = 1) (cs':P.cellsOf ts = 1) (cl:P.cellsOf tl = 1) (cb:P.cellsOf tb = 1) (cu:P.cellsOf tu = 1) (ct:P.cellsOf t = 10) (bi:P.bytesOf ti = 8) (bu:P.bytesOf tu = 1) (hval:∃ b0,Value.okWide P W r b0 t v) (h:DataW.Trod enc P W base spare held t v d ps) :
  ∃ p:CQ,v = .agg (ccells p).toArray ∧ ChgG W p:=by
 obtain ⟨_,hval⟩:=hval
 obtain ⟨fs,hs0⟩:=struct_of hu (by simp)
 obtain ⟨cs,rfl,hsz⟩:=okWide_struct hs0 hval
 obtain ⟨fuel,hf⟩:=h
 obtain ⟨p,e,_,hg⟩:=trod_chg hu hi hs hl hb hu8 ci cs' cl cb cu ct bi bu (sz_arg hz hts hds) hf
 exact ⟨p,by rw [← e]; rfl,hg⟩
end
set_option maxHeartbeats 2000000
open Go.Vc Go.RowKit
def heavyN (c:Chg):Nat:=1 + c.user.length + c.pass.length + c.box.length + c.to.length + c.uids.length + c.body.length
theorem heavy14_spec {v:Value} {c:Chg} (h:ChV v c) (hs:CSz c) (w:World):Cal Tryz.prog 8 #[v] w fun v' w' => v' = i64 (heavyN c) ∧ Nw w w':=by
 obtain ⟨A,ca,B,cb,rfl⟩:=h
 obtain ⟨h1,h2,h3,h4,h5,h6,_⟩:=hs
 unfold heavyN
 generalize hul:c.uids.length = ul at *
 generalize hbl:c.body.length = bl at *
 generalize hn1:c.user.length = n1 at *
 generalize hn2:c.pass.length = n2 at *
 generalize hn3:c.box.length = n3 at *
 generalize hn4:c.to.length = n4 at *
 have w1:IntKind.i64.wrap ((1:Int) + (n1:Int)) = ((1 + n1:Nat):Int):=by rw [w64 (by omega) (by omega)]; omega
 have w2:IntKind.i64.wrap (((1 + n1:Nat):Int) + (n2:Int)) = ((1 + n1 + n2:Nat):Int):=by rw [w64 (by omega) (by omega)]; omega
 have w3:IntKind.i64.wrap (((1 + n1 + n2:Nat):Int) + (n3:Int)) = ((1 + n1 + n2 + n3:Nat):Int):=by rw [w64 (by omega) (by omega)]; omega
 have w4:IntKind.i64.wrap (((1 + n1 + n2 + n3:Nat):Int) + (n4:Int)) = ((1 + n1 + n2 + n3 + n4:Nat):Int):=by rw [w64 (by omega) (by omega)]; omega
 have w5:IntKind.i64.wrap (((1 + n1 + n2 + n3 + n4:Nat):Int) + (ul:Int)) = ((1 + n1 + n2 + n3 + n4 + ul:Nat):Int):=by rw [w64 (by omega) (by omega)]; omega
 have w6:IntKind.i64.wrap (((1 + n1 + n2 + n3 + n4 + ul:Nat):Int) + (bl:Int)) = ((1 + n1 + n2 + n3 + n4 + ul + bl:Nat):Int):=by rw [w64 (by omega) (by omega)]; omega
 generalize 1 + n1 + n2 + n3 + n4 + ul + bl = s6 at *
 generalize 1 + n1 + n2 + n3 + n4 + ul = s5 at *
 generalize 1 + n1 + n2 + n3 + n4 = s4 at *
 generalize 1 + n1 + n2 + n3 = s3 at *
 generalize 1 + n1 + n2 = s2 at *
 generalize 1 + n1 = s1 at *
 refine enter Tryz.mixed Tryz.func8 rfl (by kernel_rfl) ?_
 simp -dsimp [go_sem,hul,hbl,hn1,hn2,hn3,hn4,w1,w2,w3,w4,w5,w6]
 exact (Kp.refl _ _).alloc _
theorem ChgG.sz {w:World} {p:CQ} (h:ChgG w p):CSz p.1 ∧ ChV (.agg (ccells p).toArray) p.1:=by
 obtain ⟨⟨A,ca,e1,h1,h2⟩,⟨B,cb,e2,h3,h4,h5⟩,a1,a2,a3,a4,a5,a6,_,_,_,_,a7⟩:=h
 refine ⟨⟨a1,a2,a3,a4,a5,a6,a7⟩,A,ca,B,cb,?_⟩
 unfold ccells
 rw [e1,e2]
theorem nm_conv {w:World} {A:Option Addr} {c:Nat} {l:List UInt8} (hr:Rd w A (l.map u8)):convR Tryz.prog 23 9 (.slice A l.length c) w = .ok (str l) w:=conv_str (e:=5) (by kernel_rfl) (by kernel_rfl) (by kernel_rfl) hr
/-- A box taken out of a store, in a variable of the statement's. -/
def BxV (w0 w':World) (z:Nat) (b:Bx):Prop:=∃ A n c,n = b.L.length ∧ Blk w' z 111 #[.string b.name,i64 b.val,i64 b.next,.slice A n c] ∧ RB w' (.agg #[.string b.name,i64 b.val,i64 b.next,.slice A n c]) b (fun _ => False) ∧ Nw w0 w' ∧ w0.heap.size ≤ z
theorem BxV.put {w w3 w5:World} {z:Nat} {b:Bx} {A:Option Addr} {c B:Nat} (hO:OB w5 (.agg #[.string b.name,i64 b.val,i64 b.next,.slice A b.L.length c]) b B) {cs:Array Value} (hz:Blk w5 z 111 #[.string ⟨#[]⟩,i64 0,i64 0,.slice none 0 0]) (hzB:z < B) (n:Nw w3 w5) (hzl:w3.heap.size ≤ z) :
  BxV w3 ((((w5.setCell ⟨z,0,none⟩ (.string b.name)).setCell ⟨z,1,none⟩ (i64 b.val)).setCell ⟨z,2,none⟩ (i64 b.next)).setCell ⟨z,3,none⟩ (.slice A b.L.length c)) z b:=by
 have ks:=kp_set4 w5 z (.string b.name) (i64 b.val) (i64 b.next) (.slice A b.L.length c)
 have hO2:=hO.kp ks fun k hk _ (e:k = z) => by omega
 exact ⟨A,_,c,rfl,blk_set4 hz _ _ _ _,hO2.rb.any,n.at_ ks fun k (e:k = z) => by omega,hzl⟩
theorem BxV.alloc {w3 w5:World} {b:Bx} {A:Option Addr} {c B:Nat} (hO:OB w5 (.agg #[.string b.name,i64 b.val,i64 b.next,.slice A b.L.length c]) b B) (n:Nw w3 w5) :
  BxV w3 (w5.alloc (.cells #[.string b.name,i64 b.val,i64 b.next,.slice A b.L.length c] 111)) w5.heap.size b:=by
 have ka:Nw w5 (w5.alloc (.cells #[.string b.name,i64 b.val,i64 b.next,.slice A b.L.length c] 111)):=(Kp.refl _ _).alloc _
 exact ⟨A,_,c,rfl,Blk.new _ _ _,(hO.nw ka).rb.any,n.nw ka,n.size⟩
end Go.Proofs.YtellahclbhfdiaaGreatDoor
