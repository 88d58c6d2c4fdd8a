/-
  A ledger opened anew on a disk whose fuse is not lit: plain laws. By the session itself. LedgerTorn walked. By the session itself. LedgerApart walked. By the session itself. The statements' begin and known, walked. By the session itself. A store in a law: Do, Check; the statements' known, walked; StoreOfNothing. By the session itself.
-/
import Derived.Test.YtellahclbhfdiaaGreatDoorZ26
import Derived.Test.YtellahclbhfdiaaGreatDoorZ36
import Derived.Test.YtellahclbhfdiaaGreatDoorZ14
namespace Go.Proofs.YtellahclbhfdiaaGreatDoor
set_option linter.unusedSimpArgs false
set_option linter.unusedVariables false
set_option maxRecDepth 100000
set_option maxHeartbeats 1000000
open Go.Vc Go.RowKit
/-- A file laid anew, no longer than it was. -/
theorem Free.relay {D:Dsk} {u m:Nat} {s:Nm} {x:Fil} (h:Free D u m) (hx:tLook D.fs s = some x) (b:List UInt8) (l:Nat) (hl:l ≤ b.length) (hb:b.length ≤ x.b.length):Free { D with fs:=tLay D.fs s ⟨b,l⟩ } u m:=by
 have hu:=used_lay h.ok s ⟨b,l⟩
 have e:fileD D s = x:=by unfold fileD; rw [hx]; rfl
 rw [e] at hu
 have hus:=h.used
 have hll:=lay_len h.ok.srt s (⟨b,l⟩:Fil)
 have hmn:=h.many
 simp only at hu
 refine ⟨h.ok.lay s ⟨b,l⟩ hl ?_ (fun e => by rw [hx] at e; cases e) (h.ok.names s x hx),h.left,by omega,?_⟩
 ·rw [hx]
  simp only [Option.getD_some]
  have:=h.ok.used
  omega
 ·simp only [hll]
  rw [if_pos (by rw [hx]; rfl)]
  exact hmn
theorem Free.gone {D:Dsk} {u m:Nat} (h:Free D u m) (s:Nm):Free { D with fs:=tGone D.fs s } u m:=by
 have hgl:=Go.Vc.gone_len D.fs s
 have hsg:=sumv_gone D.fs (fun f:Fil => f.b.length) s
 have hu:=h.used
 have hm:=h.many
 refine ⟨h.ok.rem s,h.left,?_,?_⟩
 ·have e1:Dsk.used D = sumv (fun f:Fil => f.b.length) D.fs:=rfl
  show sumv (fun f:Fil => f.b.length) (tGone D.fs s) ≤ _
  omega
 ·simp only
  rw [hgl]
  split <;> omega
theorem trunc_free {D:Dsk} {s:Nm} {x:Fil} (n:Nat) (hl:D.left = none) (hs:badN s = false) (hx:tLook D.fs s = some x) (hn:n ≤ x.b.length):dTrunc D s n = ({ D with fs:=tLay D.fs s ⟨x.b.take n,min x.l n⟩ },0):=by
 unfold dTrunc
 rw [mayF hl hs,if_neg (fun h => h rfl),hx]
 simp only
 rw [if_neg (by omega),Int.toNat_natCast,done_free (by exact hl)]
theorem cutIf_free {D:Dsk} {s:Nm} {x:Fil} {u m:Nat} (h:Free D u m) (good:Nat) (hs:badN s = false) (hx:tLook D.fs s = some x) :
  ∃ D' l',cutIf D s good x.b.length = (D',0) ∧ Free D' u m ∧ D'.room = D.room ∧ tLook D'.fs s = some ⟨x.b.take good,l'⟩ ∧ ∀ t,t ≠ s → tLook D'.fs t = tLook D.fs t:=by
 unfold cutIf
 by_cases hg:good < x.b.length
 ·rw [if_pos hg]
  unfold cutS
  have e1:=trunc_free good h.left hs hx (by omega)
  rw [e1,if_neg (fun h => h rfl)]
  simp only
  have h1:=h.relay hx (x.b.take good) (min x.l good) (by rw [List.length_take]; omega) (by rw [List.length_take]; omega)
  have hx1:tLook (Dsk.fs { D with fs:=tLay D.fs s ⟨x.b.take good,min x.l good⟩ }) s = some ⟨x.b.take good,min x.l good⟩:=by simp only [tLook_lay,if_pos]
  have e2:=step_free (D:={ D with fs:=tLay D.fs s ⟨x.b.take good,min x.l good⟩ }) (s:=s) fSync h1.left (by exact h.left) hs hx1
  have h2:=h1.relay hx1 (x.b.take good) (x.b.take good).length (Nat.le_refl _) (Nat.le_refl _)
  exact ⟨_,(x.b.take good).length,e2,h2,rfl,by simp only [fSync,tLook_lay,if_pos],fun t ht => by simp only [fSync,tLook_lay,if_neg ht]⟩
 ·rw [if_neg hg]
  exact ⟨D,x.l,rfl,h,rfl,by rw [hx,List.take_of_length_le (by omega)],fun _ _ => rfl⟩
theorem logOf_free {D:Dsk} {s:Nm} {x:Fil} {u m base good:Nat} {recs qs:List (List UInt8)} {la:Int} (h:Free D u m) (hs:badN s = false) (hx:tLook D.fs s = some x) (hsc:scanL (x.b.length + 1) x.b = (recs,good)) (htk:takesP base (-1) [] recs = some (la,qs)) :
  ∃ D',logOf D s base x.b = (D',0,qs) ∧ Free D' u m ∧ D'.room = D.room ∧ (qs ≠ [] → ∃ l',tLook D'.fs s = some ⟨x.b.take good,l'⟩) ∧ (qs = [] → tLook D'.fs s = none) ∧ ∀ t,t ≠ s → tLook D'.fs t = tLook D.fs t:=by
 obtain ⟨D1,l1,e1,f1,r1,x1,o1⟩:=cutIf_free h good hs hx
 unfold logOf
 rw [hsc]
 simp only
 rw [htk]
 simp only
 unfold logFin
 rw [e1,if_neg (fun h => h rfl)]
 simp only
 unfold emptyIf
 by_cases hq:qs = []
 ·subst hq
  simp only [List.length_nil,if_true]
  have e2:=step_free (D:=D1) (s:=s) fRemove f1.left f1.left hs x1
  rw [e2]
  have f2:=f1.gone s
  exact ⟨_,rfl,f2,r1,fun h => absurd rfl h,fun _ => by simp only [fRemove,tLook_gone f1.ok.srt,if_pos],fun t ht => by simp only [fRemove,tLook_gone f1.ok.srt,if_neg ht]; exact o1 t ht⟩
 ·have hq0:¬ qs.length = 0:=fun e => hq (List.length_eq_zero_iff.1 e)
  simp only [if_neg hq0]
  exact ⟨D1,rfl,f1,r1,fun _ => ⟨l1,x1⟩,fun e => absurd e hq,o1⟩
/-- A log and no image: what opening finds. -/
theorem opn_log {D:Dsk} {p:Nm} {x:Fil} {u m good:Nat} {qs:List (List UInt8)} (h:Free D u m) (hp:p.length ≤ 20) (hx:tLook D.fs (logN p) = some x) (h1:tLook D.fs (shadow (imgN p)) = none) (h2:tLook D.fs (imgN p) = none)
  (hsc:scanL (x.b.length + 1) x.b = (entsP 1 qs,good)) (hq:qs.length ≤ 1099511627776) (hqb:∀ b ∈ qs,b.length ≤ 1073741824) :
  ∃ D',opn D p = (D',0,⟨0,[],qs,false⟩) ∧ Free D' u m ∧ D'.room = D.room ∧ (qs ≠ [] → ∃ l',tLook D'.fs (logN p) = some ⟨x.b.take good,l'⟩) ∧ (qs = [] → tLook D'.fs (logN p) = none) ∧ ∀ t,t ≠ logN p → tLook D'.fs t = tLook D.fs t:=by
 have e1:rmvs D [shadow (imgN p)] = (D,0):=by simp [rmvs,kW1_none h1]
 have e2:kLoad D (imgN p) = ([],7):=by unfold kLoad dRead; rw [h2]; simp
 have e3:imgL D p = (0,[],0):=by unfold imgL; rw [e2]; simp
 obtain ⟨la,htk⟩:=takesP_next (base:=0) qs [] (-1) 1 (by simp) (by omega) hqb (.inl (by omega))
 rw [List.nil_append] at htk
 obtain ⟨D',e4,f4,r4,n4,z4,o4⟩:=logOf_free h (logN_bad hp) hx hsc htk
 have e5:logL D p 0 = (D',0,qs):=by unfold logL; rw [hx]; exact e4
 refine ⟨D',?_,f4,r4,n4,z4,o4⟩
 unfold opn opn2
 rw [e1]
 simp only [ne_eq,not_true_eq_false,if_false]
 unfold opn3
 rw [e3]
 simp only [ne_eq,not_true_eq_false,if_false]
 rw [e5]
theorem recsB_one (l:List (List UInt8)) (b:List UInt8):recsB (l ++ [b]) = recsB l ++ recL b:=by
 unfold recsB
 rw [List.flatMap_append]
 simp
theorem ents_push (qs:List (List UInt8)) (k:Nat) (b:List UInt8):recsB (entsP k (qs ++ [b])) = recsB (entsP k qs) ++ entB (k + qs.length) b:=by
 rw [entsP_app,entsP,entsP,recsB_one]
 rfl
theorem entsP_mem {qs:List (List UInt8)} {k M:Nat} (hb:∀ b ∈ qs,b.length ≤ M) (hk:k + qs.length ≤ 1099511627777) (hM:M ≤ 1000000):∀ e ∈ entsP k qs,e.length ≤ 1048576:=by
 induction qs generalizing k with
 | nil => intro e he; simp [entsP] at he
 | cons b r ih =>
  intro e he
  simp only [List.length_cons] at hk
  rw [entsP,List.mem_cons] at he
  rcases he with rfl | he
  ·have:=hb b (by simp)
   have:=entry_len k b (by omega) (by omega)
   omega
  ·exact ih (k:=k + 1) (fun x hx => hb x (by simp [hx])) (by omega) e he
set_option maxHeartbeats 2000000
/-- A disk, all of it new since w0. -/
def Dw (w0 w:World) (g:Nat) (D:Dsk):Prop:=∃ F,Dk w g D F ∧ (∀ k,F k → w0.heap.size ≤ k) ∧ Nw w0 w
section
variable {w0 w w1:World} {l g:Nat} {p:Nm} {D D':Dsk} {L:Led}
theorem Dw.nw (T:Dw w0 w g D) (k:Nw w w1):Dw w0 w1 g D:=by
 obtain ⟨F,h1,h2,h3⟩:=T
 exact ⟨F,h1.nw k,h2,h3.nw k⟩
theorem Dw.on (T:Dw w0 w g D):Nw w0 w:=by
 obtain ⟨F,h1,h2,h3⟩:=T
 exact h3
theorem Dw.call {k:FuncId} {args:Array Value} {u:Value} (T:Dw w0 w g D) (k1:Nw w w1)
  (h:∀ F,Dk w g D F → Dk w1 g D F → Cal Tryz.prog k args w1 fun v w' => v = u ∧ ∃ F',Dk w' g D' F' ∧ Gr F F' w1 w' ∧ Kp F w1 w'):Cal Tryz.prog k args w1 fun v w' => v = u ∧ Dw w0 w' g D':=by
 obtain ⟨F,h1,h2,h3⟩:=T
 refine (h F h1 (h1.nw k1)).mono ?_
 rintro v w' ⟨hv,F',hD,hG,hK⟩
 exact ⟨hv,F',hD,fun k hk => (hG k hk).elim (h2 k) fun e => Nat.le_trans (h3.nw k1).size e.1,(h3.nw k1).at_ hK h2⟩
theorem Dw.crash (T:Dw w0 w g D) (n:Int):Cal Tryz.prog 25 #[.pointer (some ⟨g,0,none⟩),i64 n] w fun v w' => v = .tuple #[] ∧ Dw w0 w' g (dCrash D n) :=
 T.call (Kp.refl _ _) fun F _ h => (dcrash_spec n g D F w h).mono fun v w' ⟨e,h,k⟩ => ⟨e,F,h,fun i hi => .inl hi,k⟩
theorem Dw.fuse (T:Dw w0 w g D) (n:Int) (hn:-9223372036854775808 ≤ n ∧ n ≤ 9223372036854775807):Cal Tryz.prog 23 #[.pointer (some ⟨g,0,none⟩),i64 n] w fun v w' => v = .tuple #[] ∧ Dw w0 w' g (dFuse D n):=by
 refine T.call (Kp.refl _ _) fun F _ h => (dfuse_spec n hn.2 g D F w h).mono fun v w' ⟨e,h',k⟩ => ⟨e,F,h',fun i hi => .inl hi,k.mono fun i _ (e:i = g) => by
  obtain ⟨_,_,_,_,_,hM⟩:=h
  exact e ▸ hM.fg⟩
end
/-- A ledger and a row of the law's own, apart. -/
def Lx (w0 w:World) (l g:Nat) (p:Nm) (D:Dsk) (L:Led) (A:Option Addr):Prop:=∃ F G V,LS w l g p D L F G V ∧ L.Ok ∧ (∀ k,V k → w0.heap.size ≤ k) ∧ Nw w0 w ∧ ∀ k,blk A k → V k ∧ ¬ F k ∧ ¬ G k
section
variable {w0 w w1:World} {l g:Nat} {p:Nm} {D D':Dsk} {L:Led} {A:Option Addr}
theorem Lw.lx (T:Lw w0 w l g p D L):Lx w0 w l g p D L none:=by
 obtain ⟨F,G,V,h1,h2,h3,h4⟩:=T
 exact ⟨F,G,V,h1,h2,h3,h4,fun k hk => hk.elim⟩
theorem Lx.lw (T:Lx w0 w l g p D L A):Lw w0 w l g p D L:=by
 obtain ⟨F,G,V,h1,h2,h3,h4,_⟩:=T
 exact ⟨F,G,V,h1,h2,h3,h4⟩
theorem Lx.nw (T:Lx w0 w l g p D L A) (k:Nw w w1):Lx w0 w1 l g p D L A:=by
 obtain ⟨F,G,V,h1,h2,h3,h4,h5⟩:=T
 exact ⟨F,G,V,h1.nw k,h2,h3,h4.nw k,h5⟩
/-- The row has grown. -/
theorem Lx.push {A':Option Addr} (T:Lx w0 w l g p D L A) (k:Kp (blk A) w w1) (hA:A' = A ∨ A' = some ⟨w.heap.size,0,none⟩ ∧ w.heap.size < w1.heap.size):Lx w0 w1 l g p D L A':=by
 obtain ⟨F,G,V,h1,h2,h3,h4,h5⟩:=T
 have hb:∀ i,blk A' i → blk A i ∨ i = w.heap.size ∧ w.heap.size < w1.heap.size:=fun i hi => by
  rcases hA with rfl | ⟨rfl,e⟩
  ·exact .inl hi
  ·exact .inr ⟨hi,e⟩
 refine ⟨F,G,fun i => V i ∨ blk A' i,⟨h1.dk.kp k fun i hf hi => (h5 i hi).2.1 hf,h1.lg.step k (fun i hi => ⟨(h5 i hi).1,(h5 i hi).2.2⟩) (fun i hi => hi.elim .inl fun e => (hb i e).elim (fun e => .inl (h5 i e).1) fun e => .inr ⟨by omega,by omega⟩) fun i hi => .inl hi,fun i hi => .inl (h1.fv i hi),h1.dj⟩,h2,fun i hi => hi.elim (h3 i) fun e => (hb i e).elim (fun e => h3 i (h5 i e).1) fun e => by have:=h4.size; omega,h4.at_ k fun i hi => h3 i (h5 i hi).1,fun i hi => ⟨.inr hi,fun hf => ?_,fun hg => ?_⟩⟩
 ·rcases hb i hi with e | e
  ·exact (h5 i e).2.1 hf
  ·have:=h1.dk.lt i hf; omega
 ·rcases hb i hi with e | e
  ·exact (h5 i e).2.2 hg
  ·have:=h1.lg.lt i (h1.lg.gv i hg); omega
theorem Lx.append {e:TypeId} {n c:Nat} {xs:List Value} (T:Lx w0 w l g p D L A) (hA:Ow w e 1 A n c xs) (hp:p.length ≤ 20) (b:List UInt8) (X:Option Addr) (x:Nat) (hX:Rd w0 X (b.map u8)) (hx:b.length ≤ x) (hb:b.length ≤ 140737488355328) :
  Cal Tryz.prog 57 #[.pointer (some ⟨l,0,none⟩),.slice X b.length x] w fun v w' => v = .tuple #[i64 (lApp D p L b).2.2.1,i64 (lApp D p L b).2.2.2] ∧ Lx w0 w' l g p (lApp D p L b).1 (lApp D p L b).2.1 A ∧ Ow w' e 1 A n c xs:=by
 obtain ⟨F,G,V,h1,h2,h3,h4,h5⟩:=T
 refine (lapp_spec l g p D L F G V b X x w h1 hp h2 (hX.nw h4) (hX.ofl fun k hk => h3 k hk) hx hb).mono ?_
 rintro v w' ⟨e,F1,G1,V1,h1',ch⟩
 refine ⟨e,⟨F1,G1,V1,h1',lApp_ok h2 D p b,fun k hk => (ch.gV k hk).elim (h3 k) fun e => Nat.le_trans h4.size e.1,h4.at_ ch.kp fun k hk => hk.elim (fun e => h3 k (h1.fv k e)) fun e => h3 k (h1.lg.gv k e),fun k hk => ⟨ch.vv k (h5 k hk).1,fun hf => ?_,fun hg => ?_⟩⟩,hA.kp ch.kp (Off.of_blk fun i hi e => e.elim (h5 i hi).2.1 (h5 i hi).2.2)⟩
 ·have:=h1.lg.lt k (h5 k hk).1
  exact (ch.gF k hf).elim (h5 k hk).2.1 fun e => by omega
 ·have:=h1.lg.lt k (h5 k hk).1
  exact (ch.gG k hg).elim (h5 k hk).2.2 fun e => by omega
theorem Lx.disk {e:TypeId} {n c:Nat} {xs:List Value} {k:FuncId} {args:Array Value} {u:Value} (T:Lx w0 w l g p D L A) (hA:Ow w e 1 A n c xs)
  (h:∀ F,Dk w g D F → Cal Tryz.prog k args w fun v w' => v = u ∧ ∃ F',Dk w' g D' F' ∧ Gr F F' w w' ∧ Kp F w w'):Cal Tryz.prog k args w fun v w' => v = u ∧ Lx w0 w' l g p D' L A ∧ Ow w' e 1 A n c xs:=by
 obtain ⟨F,G,V,h1,h2,h3,h4,h5⟩:=T
 refine (h F h1.dk).mono ?_
 rintro v w' ⟨hv,F',hD,hG,hK⟩
 obtain ⟨h1',gV⟩:=h1.disk hD hG hK
 refine ⟨hv,⟨F',G,_,h1',h2,fun k hk => (gV k hk).elim (h3 k) fun e => Nat.le_trans h4.size e.1,h4.at_ hK fun k hk => h3 k (h1.fv k hk),fun k hk => ⟨.inl (h5 k hk).1,fun hf => ?_,(h5 k hk).2.2⟩⟩,hA.kp hK (Off.of_blk fun i hi e => (h5 i hi).2.1 e)⟩
 have:=h1.lg.lt k (h5 k hk).1
 exact (hG k hf).elim (h5 k hk).2.1 fun e => by omega
end
/-- The log's ends behind each entry. -/
def logB (ps:List (List UInt8)):List UInt8:=recsB (entsP 1 ps)
/-- The log after some entries, and nothing beside it. -/
structure Log0 (D:Dsk) (ps:List (List UInt8)) (u m:Nat):Prop where
 free:Free D u m
 room:D.room = 65536
 file:(fileD D (logN [97])).b = logB ps
 look:ps ≠ [] → ∃ l,tLook D.fs (logN [97]) = some ⟨logB ps,l⟩
 else_:∀ t,t ≠ logN [97] → tLook D.fs t = none
theorem Log0.push {D:Dsk} {ps:List (List UInt8)} {u m:Nat} (h:Log0 D ps u m) (b:List UInt8) (hb:b.length ≤ 65536) (hu:u + b.length + 30 ≤ 65536) (hm:m < 4096) (h40:ps.length < 1099511627776) :
  ∃ D',lApp D [97] ⟨0,[],ps,false⟩ b = (D',⟨0,[],ps ++ [b],false⟩,ps.length + 1,0) ∧ Log0 D' (ps ++ [b]) (u + b.length + 30) (m + 1) ∧ tLook D'.fs (logN [97]) = some ⟨logB (ps ++ [b]),(logB (ps ++ [b])).length⟩:=by
 have hll:(⟨0,[],ps,false⟩:Led).last = ps.length:=by simp [Led.last]
 obtain ⟨D',e,f,r,x,o⟩:=lApp_out (p:=[97]) (L:=⟨0,[],ps,false⟩) (b:=b) h.free (by simp) rfl (by rw [hll]; exact h40) hb (by rw [h.room]; exact hu) hm
 rw [hll] at e x
 have hf:(fileD D (logN [97])).b ++ entB (ps.length + 1) b = logB (ps ++ [b]):=by
  rw [h.file]
  unfold logB
  rw [ents_push,Nat.add_comm 1]
 rw [hf] at x
 exact ⟨D',e,⟨f,r.trans h.room,by unfold fileD; rw [x]; rfl,fun _ => ⟨_,x⟩,fun t ht => by rw [o t ht,h.else_ t ht]⟩,x⟩
theorem logs_ne:shadow (imgN [97]) ≠ logN [97]:=(log_sh _).symm
theorem logi_ne:imgN [97] ≠ logN [97]:=img_log _
/-- A log whole or cut, opened. -/
theorem opn_cut {D:Dsk} {ps:List (List UInt8)} {u m k n l:Nat} (h:Free D u m) (hx:tLook D.fs (logN [97]) = some ⟨(logB ps).take k,l⟩) (he:∀ t,t ≠ logN [97] → tLook D.fs t = none) (hk:k ≤ (logB ps).length) (hn:n ≤ ps.length) (h1:(logB (ps.take n)).length ≤ k) (h2:n = ps.length ∨ k < (logB (ps.take (n + 1))).length) (hpl:ps.length ≤ 1000) (hb:∀ b ∈ ps,b.length ≤ 65536) :
  ∃ D',opn D [97] = (D',0,⟨0,[],ps.take n,false⟩) ∧ Free D' u m ∧ D'.room = D.room ∧ (fileD D' (logN [97])).b = logB (ps.take n) ∧ (ps.take n ≠ [] → ∃ l,tLook D'.fs (logN [97]) = some ⟨logB (ps.take n),l⟩) ∧ ∀ t,t ≠ logN [97] → tLook D'.fs t = none:=by
 have hkl:((logB ps).take k).length = k:=by rw [List.length_take]; omega
 have hsc:=scan_cut (entsP 1 ps) (entsP_mem hb (by omega) (by omega)) n k (k + 1) (by rw [entsP_len]; exact hn) (by rw [entsP_take]; exact h1) (by rw [entsP_len,entsP_take]; exact h2) hk (by omega)
 rw [entsP_take] at hsc
 have hcut:((logB ps).take k).take (recsB (entsP 1 (ps.take n))).length = logB (ps.take n):=by
  have e:logB ps = logB (ps.take n) ++ recsB (entsP (1 + n) (ps.drop n)):=by
   have:=entsP_app 1 (ps.take n) (ps.drop n)
   rw [List.take_append_drop,List.length_take,Nat.min_eq_left hn] at this
   unfold logB
   rw [this]
   unfold recsB
   rw [List.flatMap_append]
  have h1':(recsB (entsP 1 (ps.take n))).length ≤ k:=h1
  rw [List.take_take,Nat.min_eq_left h1',e]
  exact List.take_left' rfl
 obtain ⟨D',e,f,r,x,z,o⟩:=opn_log (x:=⟨(logB ps).take k,l⟩) (qs:=ps.take n) (good:=(recsB (entsP 1 (ps.take n))).length) h (by simp) hx (he _ logs_ne) (he _ logi_ne) (by simp only [hkl]; exact hsc) (by rw [List.length_take]; omega) (fun b hb' => by have:=hb b (List.mem_of_mem_take hb'); omega)
 simp only [hcut] at x
 refine ⟨D',e,f,r,?_,x,fun t ht => by rw [o t ht,he t ht]⟩
 by_cases hq:ps.take n = []
 ·unfold fileD
  rw [z hq,hq]
  rfl
 ·obtain ⟨l',hl'⟩:=x hq
  unfold fileD
  rw [hl']
  rfl
theorem Dw.ok {w0 w:World} {g:Nat} {D:Dsk} (T:Dw w0 w g D):D.Ok:=by
 obtain ⟨F,h1,h2,h3⟩:=T
 exact h1.ok
/-- Two ledgers on one disk. -/
def L2 (w0 w:World) (g:Nat) (D:Dsk) (l1:Nat) (p1:Nm) (L1:Led) (l2:Nat) (p2:Nm) (M:Led):Prop:=∃ F G1 G2 V,LS w l1 g p1 D L1 F G1 V ∧ LS w l2 g p2 D M F G2 V ∧ (∀ k,G1 k → ¬ G2 k) ∧ L1.Ok ∧ M.Ok ∧ (∀ k,V k → w0.heap.size ≤ k) ∧ Nw w0 w
section
variable {w0 w w1:World} {g l1 l2:Nat} {p1 p2:Nm} {D D':Dsk} {L1 L1' M:Led}
theorem L2.nw (T:L2 w0 w g D l1 p1 L1 l2 p2 M) (k:Nw w w1):L2 w0 w1 g D l1 p1 L1 l2 p2 M:=by
 obtain ⟨F,G1,G2,V,a1,a2,dj,o1,o2,h3,h4⟩:=T
 exact ⟨F,G1,G2,V,a1.nw k,a2.nw k,dj,o1,o2,h3,h4.nw k⟩
theorem L2.lw (T:L2 w0 w g D l1 p1 L1 l2 p2 M):Lw w0 w l1 g p1 D L1:=by
 obtain ⟨F,G1,G2,V,a1,a2,dj,o1,o2,h3,h4⟩:=T
 exact ⟨F,G1,V,a1,o1,h3,h4⟩
theorem L2.step {k:FuncId} {args:Array Value} {u:Value} (T:L2 w0 w g D l1 p1 L1 l2 p2 M) (k1:Nw w w1) (ok:L1'.Ok)
  (h:∀ F G V,LS w l1 g p1 D L1 F G V → LS w1 l1 g p1 D L1 F G V → (∀ k,V k → w0.heap.size ≤ k) → Cal Tryz.prog k args w1 fun v w' => v = u ∧ ChR w1 w' l1 g p1 D' L1' F G V):Cal Tryz.prog k args w1 fun v w' => v = u ∧ L2 w0 w' g D' l1 p1 L1' l2 p2 M:=by
 obtain ⟨F,G1,G2,V,a1,a2,dj,o1,o2,h3,h4⟩:=T
 refine (h F G1 V a1 (a1.nw k1) h3).mono ?_
 rintro v w' ⟨hv,F',G1',V',b1,ch⟩
 have a2:=a2.nw k1
 have n1:=h4.nw k1
 refine ⟨hv,F',G1',G2,V',b1,⟨b1.dk,a2.lg.step ch.kp (fun i hi => ⟨hi.elim (a1.fv i) (a1.lg.gv i),fun hg => hi.elim (fun e => a2.dj i e hg) (fun e => dj i e hg)⟩) ch.gV ch.vv,b1.fv,fun i hf hg => (ch.gF i hf).elim (fun e => a2.dj i e hg) (fun e => by have:=a2.lg.lt i (a2.lg.gv i hg); omega)⟩,fun i h1 h2 => (ch.gG i h1).elim (fun e => dj i e h2) (fun e => by have:=a2.lg.lt i (a2.lg.gv i h2); omega),ok,o2,fun k hk => (ch.gV k hk).elim (h3 k) fun e => Nat.le_trans n1.size e.1,n1.at_ ch.kp fun k hk => hk.elim (fun e => h3 k (a1.fv k e)) fun e => h3 k (a1.lg.gv k e)⟩
theorem L2.ok1 (T:L2 w0 w g D l1 p1 L1 l2 p2 M):L1.Ok:=T.lw.lok
theorem own_ofl {X:Option Addr} {b:List UInt8} {V:Nat → Prop} (hX:∀ k,blk X k → w.heap.size ≤ k) (hV:∀ k,V k → k < w.heap.size):Ofl X (b.map u8) V:=by
 intro a ha _ hv
 have e1:=hX a.block (by rw [ha]; rfl)
 have e2:=hV _ hv
 omega
theorem L2.append (T:L2 w0 w g D l1 p1 L1 l2 p2 M) (hp:p1.length ≤ 20) (k1:Nw w w1) (b:List UInt8) (X:Option Addr) (x:Nat) (hr:Rd w1 X (b.map u8)) (hX:∀ k,blk X k → w.heap.size ≤ k) (hx:b.length ≤ x) (hb:b.length ≤ 140737488355328) :
  Cal Tryz.prog 57 #[.pointer (some ⟨l1,0,none⟩),.slice X b.length x] w1 fun v w' => v = .tuple #[i64 (lApp D p1 L1 b).2.2.1,i64 (lApp D p1 L1 b).2.2.2] ∧ L2 w0 w' g (lApp D p1 L1 b).1 l1 p1 (lApp D p1 L1 b).2.1 l2 p2 M :=
 T.step k1 (lApp_ok T.ok1 D p1 b) fun F G V h0 h1 _ => lapp_spec l1 g p1 D L1 F G V b X x w1 h1 hp T.ok1 hr (own_ofl hX h0.lg.lt) hx hb
theorem L2.write (T:L2 w0 w g D l1 p1 L1 l2 p2 M) (hp:p1.length ≤ 20) (k1:Nw w w1) (n:Int) (b:List UInt8) (X:Option Addr) (x:Nat) (hr:Rd w1 X (b.map u8)) (hX:∀ k,blk X k → w.heap.size ≤ k) (hx:b.length ≤ x) (hb:b.length ≤ 140737488355328) :
  Cal Tryz.prog 103 #[.pointer (some ⟨l1,0,none⟩),i64 n,.slice X b.length x] w1 fun v w' => v = i64 (lWrite D p1 L1 n b).2.2 ∧ L2 w0 w' g (lWrite D p1 L1 n b).1 l1 p1 (lWrite D p1 L1 n b).2.1 l2 p2 M :=
 T.step k1 (lWrite_ok T.ok1 D p1 n b) fun F G V h0 h1 _ => lwrite_spec l1 g p1 D L1 F G V n b X x w1 h1 hp T.ok1 hr (own_ofl hX h0.lg.lt) hx hb
theorem Lg.wide0 {l:Nat} {p:Nm} {G V V':Nat → Prop} (h:Lg w l g p Led.zero G V) (hV:∀ k,V k → V' k) (hl:∀ k,V' k → k < w.heap.size):Lg w l g p Led.zero G V':=by
 obtain ⟨B,d,A,c,vs,hb,hr,ho,hd,hA,hv,hAl,h1,h2,h3⟩:=h
 exact ⟨B,d,A,c,vs,hb,hr,fun a ha hx => absurd rfl hx,hd,hA,⟨hv.1,fun i hi => absurd hi (Nat.not_lt_zero i)⟩,hAl,h1,fun k hk => hV k (h2 k hk),hl⟩
end
/-- Only the two logs are there. -/
structure Ap (D:Dsk) (a b:Nm) (u m:Nat):Prop where
 free:Free D u m
 room:D.room = 65536
 els:∀ t,t ≠ logN a → t ≠ logN b → tLook D.fs t = none
theorem Ap.push {D:Dsk} {a b p:Nm} {L:Led} {c:UInt8} {u m:Nat} (h:Ap D a b u m) (hp:p = a ∨ p = b) (hpl:p.length ≤ 20) (hd:L.dead = false) (h40:L.last < 1099511627776) (hu:u ≤ 10000) (hm:m ≤ 100) :
  ∃ D',lApp D p L [c] = (D',{ L with ents:=L.ents ++ [[c]] },L.last + 1,0) ∧ Ap D' a b (u + 31) (m + 1):=by
 obtain ⟨D',e,f,r,x,o⟩:=lApp_out (p:=p) (L:=L) (b:=[c]) h.free hpl hd h40 (by simp) (by rw [h.room]; simp; omega) (by omega)
 refine ⟨D',e,by simpa [Nat.add_comm] using f,r.trans h.room,fun t h1 h2 => ?_⟩
 rw [o t (by rcases hp with rfl | rfl <;> assumption),h.els t h1 h2]
/-- What opening the reference's store on a fresh disk comes to. -/
def ROpen0 (w w':World) (v:Value) (x:Nat) (F:Nat → Prop):Prop:=∃ q l F' G V,v = .tuple #[.pointer (some ⟨q,0,none⟩),i64 0] ∧ Blk w' q 123 #[.slice none 0 0,i64 1,.pointer (some ⟨l,0,none⟩),.bool false] ∧ RS w' l x mailN Dsk.fresh Led.zero F' G V ∧ Gr F V w w' ∧ Kp F w w' ∧ ¬ V q ∧ w.heap.size ≤ q
theorem rsopen0_spec (x:Nat) (F:Nat → Prop) (w:World) (h:RefD w x Dsk.fresh F) (hFl:∀ k,F k → k < w.heap.size):Cal Tryz.prog 27 #[.pointer (some ⟨x,0,none⟩)] w fun v w' => ROpen0 w w' v x F:=by
 refine enter Tryz.mixed Tryz.func27 rfl (by kernel_rfl) ?_
 simp -dsimp [go_sem]
 refine call (ropen_spec x mailN Dsk.fresh F w h Dsk.fresh_ok hFl (by decide) (by decide)) ?_
 rw [fresh_open]
 rintro v w1 ⟨F1,hD1,gF1,kF1,⟨hne,_⟩ | ⟨_,l,G1,V1,rfl,hL1,okL,gV1⟩⟩
 ·exact absurd rfl hne
 simp only at hD1 hL1 okL
 obtain ⟨B,d,A,c,vs,hb,hr,hoB,hd,hA,hv,hAl,a1,a2,a3⟩:=id hL1.lg
 have hV1l:∀ k,V1 k → k < w1.heap.size:=a3
 have ka:Nw w1 (w1.alloc (.cells #[.slice none 0 0,i64 1,.pointer (some ⟨l,0,none⟩),.bool false] 123)):=(Kp.refl _ _).alloc _
 have hq:=Blk.new w1 123 #[.slice none 0 0,i64 1,.pointer (some ⟨l,0,none⟩),.bool false]
 have hb2:=hb.nw ka
 have l2:=hb2.cell 2
 have l3:=hb2.cell 3
 have l4:=hb2.cell 4
 have e1:Led.zero.base = 0:=rfl
 have e2:Led.zero.data.length = 0:=rfl
 have e3:Led.zero.ents.length = 0:=rfl
 rw [e1] at l2
 rw [e2] at l3
 rw [e3] at l4
 simp -dsimp [go_sem]
 simp [go_sem,l2,l3]
 refine loop [2,3,7,8,9,10,11,43,44,45,46,47,48,49,50,51,52,53,54,55,56,57,58,59,60,61,62,63,64,65,66,67,68,69,70,71,72] (by kernel_rfl)
  (fun f w' => Box1 (fun a w' => a = i64 0 ∧ w' = (w1.alloc (.cells #[.slice none 0 0,i64 1,.pointer (some ⟨l,0,none⟩),.bool false] 123))) (f 7) w') (fun f _ => 0) ⟨rfl,rfl⟩ ?_
 rintro f w' ⟨f7,rfl⟩
 simp -dsimp [go_sem,f7,l4]
 exact ⟨w1.heap.size,l,F1,G1,V1,rfl,hq,hL1.nw ka,Gr.wide gV1 (Nat.le_refl _) ka.size,kF1.nw ka,fun e => by have:=hV1l _ e; omega,kF1.size⟩
/-- What begin comes to. -/
def BeginR (w w':World) (v:Value):Prop:=∃ p g x s t l q l2 F2 G2 V2,v = .pointer (some ⟨p,0,none⟩) ∧ Blk w' p 49 #[.pointer (some ⟨g,0,none⟩),.pointer (some ⟨x,0,none⟩),.pointer (some ⟨s,0,none⟩),.pointer (some ⟨q,0,none⟩)] ∧
 Sm w w' s g l t Sto.fresh (fun k => k = q ∨ V2 k) (fun k => k = p) ∧ Blk w' q 123 #[.slice none 0 0,i64 1,.pointer (some ⟨l2,0,none⟩),.bool false] ∧ RS w' l2 x mailN Dsk.fresh Led.zero F2 G2 V2 ∧ (∀ k,V2 k → w.heap.size ≤ k) ∧ ¬ V2 q ∧ p ≠ q ∧ ¬ V2 p ∧ w.heap.size ≤ p ∧ w.heap.size ≤ q
/-- A store of nothing reads nothing: what may turn beside it is free. -/
theorem StM.wide0 {w:World} {s g l t:Nat} {F G FS V V':Nat → Prop} (h:StM w s g l t Sto.fresh F G FS V) (hV:∀ k,V k → V' k) (hl:∀ k,V' k → k < w.heap.size):StM w s g l t Sto.fresh F G FS V':=by
 obtain ⟨r,ptr,rb,vb,Fs,hM⟩:=h.st
 exact ⟨h.blk,⟨h.ls.dk,Lg.wide0 h.ls.lg hV hl,fun i hi => hV i (h.ls.fv i hi),h.ls.dj⟩,h.lok,⟨r,ptr,rb,vb,Fs,hM.blk,hM.mp,fun s u h => (by cases h),hM.apart,hM.inn,hM.ne,hM.ft,hM.fr,hM.lt,fun k hk => hV k (hM.fv k hk)⟩,h.apF,hV _ h.sv,h.sap⟩
theorem refd_lt {w:World} {x:Nat} {D:Dsk} {F:Nat → Prop} (h:RefD w x D F):∀ k,F k → k < w.heap.size:=by
 obtain ⟨L,A,c,Q,h1,h2⟩:=h
 exact h2.lt
theorem begin_spec (w:World):Cal Tryz.prog 15 #[] w fun v w' => BeginR w w' v:=by
 refine enter Tryz.mixed Tryz.func15 rfl (by kernel_rfl) ?_
 simp -dsimp [go_sem]
 refine call (new_spec 268435456 w) ?_
 rintro v w1 (⟨h,_⟩ | ⟨_,_,g,F,rfl,hD,nF,k1⟩)
 ·omega
 have hD:Dk w1 g Dsk.fresh F:=hD
 simp -dsimp [go_sem]
 refine call (rnew_spec 268435456 w1) ?_
 rintro v w2 (⟨h,_⟩ | ⟨_,_,x,Fx,rfl,hX,nX,k2⟩)
 ·omega
 have hX:RefD w2 x Dsk.fresh Fx:=hX
 have hFl:=hD.lt
 have hXl:=refd_lt hX
 simp -dsimp [go_sem]
 refine call (sopen0_spec g F w2 (hD.nw k2)) ?_
 rintro v w3 ⟨s,l,t,F3,G3,FS,V,rfl,hS,gV,k3⟩
 have hX3:RefD w3 x Dsk.fresh Fx:=hX.kp k3 fun i hi hf => by have:=hFl i hf; have:=nX i hi; omega
 simp -dsimp [go_sem]
 refine call (rsopen0_spec x Fx w3 hX3 (refd_lt hX3)) ?_
 rintro v w4 ⟨q,l2,F2,G2,V2,rfl,hq,hR,gV2,k4,hqV,hqw⟩
 have hV3:=hS.lt
 have s12:=k1.size
 have s23:=k2.size
 have s34:=k3.size
 have s45:=k4.size
 have dj:∀ k,V k → ¬ Fx k:=fun k hv hf => by
  have:=nX k hf
  have:=hXl k hf
  rcases gV k hv with e | e
  ·have:=hFl k e; omega
  ·omega
 have hS3:=hS.wide0 (V':=fun k => V k ∨ Fx k) (fun k hk => .inl hk) fun k hk => hk.elim (hV3 k) fun e => by have:=hXl k e; omega
 have hV2l:∀ k,V2 k → k < w4.heap.size:=hR.lg.lt
 have hqn:=hq.lt
 have fS:∀ k,Fx k → ¬ F3 k ∧ ¬ G3 k ∧ ¬ FS k ∧ k ≠ s:=fun k hk => ⟨fun e => dj k (hS.fv k e) hk,fun e => dj k (hS.gv k e) hk,fun e => dj k (hS.fsv k e) hk,fun e => dj s hS.sv (e ▸ hk)⟩
 have h4:=hS3.step (V':=fun k => (V k ∨ Fx k) ∨ k = q ∨ V2 k) k4 (fun i hi => ⟨.inr hi,fS i hi⟩) (fun i hi => by
  rcases hi with hi | hi | hi
  ·exact .inl hi
  ·exact .inr ⟨by omega,by omega⟩
  ·exact (gV2 i hi).imp .inr id) fun i hi => .inl hi
 have nX':∀ k,Fx k → w.heap.size ≤ k:=fun k hk => by have:=nX k hk; omega
 have n4:Nw w w4:=((k1.nw k2).at_ k3 nF).at_ k4 nX'
 have hV2n:∀ k,V2 k → w.heap.size ≤ k:=fun k hk => (gV2 k hk).elim (nX' k) fun e => by omega
 have hVn:∀ k,V k → w.heap.size ≤ k:=fun k hk => (gV k hk).elim (nF k) fun e => by omega
 have m4:Sm w w4 s g l t Sto.fresh (fun k => k = q ∨ V2 k) (fun _ => False):=by
  refine ⟨F3,G3,FS,_,h4,fun k hk => ?_,n4,fun k hk => ⟨.inr hk,?_⟩,fun k hk => hk.elim⟩
  ·rcases hk with (hk | hk) | hk | hk
   ·exact hVn k hk
   ·exact nX' k hk
   ·omega
   ·exact hV2n k hk
  ·have hnew:w3.heap.size ≤ k → ¬ F3 k ∧ ¬ G3 k ∧ ¬ FS k ∧ k ≠ s:=fun hk => ⟨fun e => by have:=hV3 k (hS.fv k e); omega,fun e => by have:=hV3 k (hS.gv k e); omega,fun e => by have:=hV3 k (hS.fsv k e); omega,fun e => by have:=hS.sl; omega⟩
   rcases hk with hk | hk
   ·exact hnew (by omega)
   ·rcases gV2 k hk with e | e
    ·exact fS k e
    ·exact hnew e.1
 simp -dsimp [go_sem]
 have ka:Nw w4 (w4.alloc (.cells #[.pointer (some ⟨g,0,none⟩),.pointer (some ⟨x,0,none⟩),.pointer (some ⟨s,0,none⟩),.pointer (some ⟨q,0,none⟩)] 49)):=(Kp.refl _ _).alloc _
 have hp:=Blk.new w4 49 #[.pointer (some ⟨g,0,none⟩),.pointer (some ⟨x,0,none⟩),.pointer (some ⟨s,0,none⟩),.pointer (some ⟨q,0,none⟩)]
 have hpl:=hp.lt
 exact ⟨w4.heap.size,g,x,s,t,l,q,l2,F2,G2,V2,rfl,hp,m4.more ka (fun i hi => .inl hi) (fun i (e:i = w4.heap.size) => .inr ⟨by omega,by omega⟩) (fun i hi (e:i = w4.heap.size) => by
  rcases hi with hi | hi
  ·omega
  ·have:=hV2l i hi; omega),hq.nw ka,hR.nw ka,hV2n,hqV,by omega,fun e => by have:=hV2l _ e; omega,by omega,by omega⟩
section
variable {w0 w:World} {s g l t:Nat} {S:Sto} {U E:Nat → Prop}
theorem Sm.do (h:Sm w0 w s g l t S U E) (hT:S.T.Ok) {v:Value} {c:Chg} (hc:RC w v c (fun _ => False)) (hs:CSz c) (hu:c.uids.length ≤ 1000000000) :
  Cal Tryz.prog 16 #[.pointer (some ⟨s,0,none⟩),v] w fun v' w' => v' = .tuple #[i64 (doA S c).2.1,i64 (doA S c).2.2] ∧ Sm w0 w' s g l t (doA S c).1 U E ∧ Kp (Fu w0 U E) w w':=by
 obtain ⟨F,G,FS,V,h1,h2,h3,h4,h5⟩:=h
 refine (do_spec v c w h1 hT hc hs hu).mono ?_
 rintro v' w' ⟨e,d⟩
 exact ⟨e,Sm.of h1 h2 h3 h4 h5 d⟩
/-- Whether a user has a pass. -/
def chk (T:Stt) (n p:Nm):Bool:=match tLook T.us n with | none => false | some u => decide (u.pass = p)
theorem Sm.check (h:Sm w0 w s g l t S U E) (n p:Nm) :
  Cal Tryz.prog 47 #[.pointer (some ⟨s,0,none⟩),str n,str p] w fun v w' => v = .bool (chk S.T n p) ∧ w' = w:=by
 obtain ⟨F,G,FS,V,h1,h2,h3,h4,h5⟩:=h
 exact check_spec h1.blk h1.st n p
theorem Sm.dead (h:Sm w0 w s g l t S U E):Cal Tryz.prog 29 #[.pointer (some ⟨s,0,none⟩)] w fun v w' => v = .bool S.dead ∧ w' = w:=by
 obtain ⟨F,G,FS,V,h1,h2,h3,h4,h5⟩:=h
 exact dead_spec h1.blk
end
/-- A change with no rows, as the statements lay it. -/
theorem rc_plain (w:World) (k:Int) (us ps bx to:Nm) (m f d:Int):RC w (.agg #[i64 k,str us,str ps,str bx,str to,.slice none 0 0,i64 m,i64 f,i64 d,.slice none 0 0]) ⟨k,us,ps,bx,to,[],m,f,d,[]⟩ (fun _ => False) :=
 ⟨none,0,none,0,rfl,Nat.le_refl _,Nat.le_refl _,Rd.nil _ _,fun _ _ h => absurd rfl h,Rd.nil _ _,fun _ _ h => absurd rfl h⟩
theorem Fu.at_p {w0 w w':World} {U E:Nat → Prop} {p:Nat} {ty:TypeId} {cs:Array Value} (h:Blk w p ty cs) (k:Kp (Fu w0 U E) w w') (hE:E p):Blk w' p ty cs:=h.kp k fun e => e.2.2 hE
theorem stknown_spec (w:World):Cal Tryz.prog 13 #[] w fun v w' => v = .bool true ∧ Nw w w':=by
 refine enter Tryz.mixed Tryz.func13 rfl (by kernel_rfl) ?_
 simp -dsimp [go_sem]
 refine call (begin_spec w) ?_
 rintro v w1 ⟨p,g,x,s,t,l,q,l2,F2,G2,V2,rfl,hp,hS,_⟩
 have p2:=hp.cell 2
 obtain ⟨o1,e1,e2,e3⟩:=known_one
 rcases Sf.fresh.step knownU (by omega) (by omega) (by omega) with ⟨h,_⟩ | ⟨_,h,_⟩ | ⟨_,_,S1,d1,t1,f1⟩
 ·rw [o1] at h; cases h
 ·exact absurd e1 h
 have e2:(plan Sto.fresh.T knownU).2.1 = 0:=e2
 have e3:(plan Sto.fresh.T knownU).2.2 = ⟨2,[([97],⟨[112],[(inboxN,newB inboxN 1)]⟩)]⟩:=e3
 rw [e2] at d1
 rw [e3] at t1
 obtain ⟨o2,a1,a2,a3⟩:=known_two
 rw [← t1] at a1 a2 a3
 rcases f1.step knownA (by omega) (by omega) (by omega) with ⟨h,_⟩ | ⟨_,h,_⟩ | ⟨_,_,S2,d2,t2,f2⟩
 ·rw [o2] at h; cases h
 ·exact absurd a1 h
 rw [a2] at d2
 rw [← t2] at a3
 simp -dsimp [go_sem,p2]
 simp [go_sem]
 refine call (hS.do Stt.Ok.zero (rc_plain w1 1 [97] [112] [] [] 0 0 0) (chgOk_ok o1).sz (by simp)) ?_
 have ed1:doA Sto.fresh ⟨1,[97],[112],[],[],[],0,0,0,[]⟩ = (S1,0,0):=d1
 rw [ed1]
 rintro v w2 ⟨rfl,hS2,k2⟩
 have hp2:=Fu.at_p hp k2 rfl
 have p22:=hp2.cell 2
 simp -dsimp [go_sem,p22]
 simp [go_sem]
 refine call (hS2.do f1.tok (rc_plain w2 5 [97] [] inboxN [] 0 0 0) (chgOk_ok o2).sz (by simp)) ?_
 have ed2:doA S1 ⟨5,[97],[],inboxN,[],[],0,0,0,[]⟩ = (S2,1,0):=d2
 rw [ed2]
 rintro v w3 ⟨rfl,hS3,k3⟩
 have hp3:=Fu.at_p hp2 k3 rfl
 have p23:=hp3.cell 2
 simp -dsimp [go_sem,p23]
 refine call (hS3.check [97] [112]) ?_
 rintro v w4 ⟨rfl,rfl⟩
 have c1:chk S2.T [97] [112] = true:=by unfold chk; rw [a3]; rfl
 have c2:chk S2.T [97] [113] = false:=by unfold chk; rw [a3]; rfl
 rw [c1]
 simp -dsimp [go_sem,p23]
 refine call (hS3.check [97] [113]) ?_
 rintro v w5 ⟨rfl,rfl⟩
 rw [c2]
 simp -dsimp [go_sem]
 exact hS3.on
end Go.Proofs.YtellahclbhfdiaaGreatDoor
