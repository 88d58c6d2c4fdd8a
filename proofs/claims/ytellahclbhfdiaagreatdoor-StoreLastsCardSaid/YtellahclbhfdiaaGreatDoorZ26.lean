/-
  A ledger: Write, Drop walked. By the session itself. A ledger: Drop walked; a ledger in a law. By the session itself. KeepLast walked: what is there is what was saved last with OK, or what the save that erred was to write. By the session itself. Records one behind the other, whole and torn: plain laws. By the session itself. A ledger on a disk whose fuse is not lit: plain laws. By the session itself.
-/
import Derived.Test.YtellahclbhfdiaaGreatDoorZ21
import Derived.Test.YtellahclbhfdiaaGreatDoorZ18
namespace Go.Proofs.YtellahclbhfdiaaGreatDoor
set_option linter.unusedSimpArgs false
set_option linter.unusedVariables false
set_option maxRecDepth 100000
set_option maxHeartbeats 2000000
open Go.Vc Go.RowKit
theorem Lg.clear {w:World} {l g:Nat} {p:Nm} {L:Led} {G V:Nat → Prop} (h:Lg w l g p L G V):Lg (w.setCell ⟨l,4,none⟩ (.slice none 0 0)) l g p { L with ents:=[] } G V ∧ Kp (At l) w (w.setCell ⟨l,4,none⟩ (.slice none 0 0)):=by
 obtain ⟨B,d,A,c,vs,hb,hr,ho,hd,hA,hv,hAl,h1,h2,h3⟩:=h
 have hVl:V l:=h2 _ (h1 _ (.inl rfl))
 have ks:Kp (At l) w (w.setCell ⟨l,4,none⟩ (.slice none 0 0)):=(Kp.refl _ _).setCell_at _ _
 refine ⟨⟨B,d,none,0,[],by simpa using hb.set 4 (.slice none 0 0),hr.kp ks (fun a ha hx (e:a.block = l) => ho a ha hx (e ▸ hVl)),ho,hd,Ow.nil _ _ _,RV.nil _ _,by simp [Off],fun k hk => hk.elim (fun e => h1 k (.inl e)) fun e => e.elim,h2,fun k hk => Nat.lt_of_lt_of_le (h3 k hk) ks.size⟩,ks⟩
theorem lWrite_ok {L:Led} (ok:L.Ok) (D:Dsk) (p:Nm) (n:Int) (b:List UInt8):Led.Ok (lWrite D p L n b).2.1:=by
 unfold lWrite
 split
 ·exact ok
 ·split
  ·exact ok
  ·split
   ·exact ok
   ·rename_i h1 h2 h3
    unfold wrL
    split
    ·exact ⟨ok.last,ok.data,ok.ents⟩
    ·exact ⟨by simp; omega,by simp only; omega,by simp⟩
theorem lwrite_spec (l g:Nat) (p:Nm) (D:Dsk) (L:Led) (F G V:Nat → Prop) (n:Int) (b:List UInt8) (X:Option Addr) (x:Nat) (w:World) (h:LS w l g p D L F G V) (hp:p.length ≤ 20) (ok:L.Ok) (hr:Rd w X (b.map u8)) (hX:Ofl X (b.map u8) V) (hx:b.length ≤ x) (hb:b.length ≤ 140737488355328) :
  Cal Tryz.prog 103 #[.pointer (some ⟨l,0,none⟩),i64 n,.slice X b.length x] w fun v w' => v = i64 (lWrite D p L n b).2.2 ∧ ChR w w' l g p (lWrite D p L n b).1 (lWrite D p L n b).2.1 F G V:=by
 have e0:lWrite D p L n b = if L.dead then (D,L,9) else if n < L.last ∨ 1099511627776 < n then (D,L,1) else if 524288 < b.length then (D,L,5) else
  wrL L (wrS (kSave D (imgN p) (numB n.toNat ++ rowB b)) (logN p)) n.toNat b:=rfl
 have c5:=h.lg.c5
 have hlN:(logN p).length = p.length + 4:=by simp [logN]
 have hsN:(logN p).length ≤ 9223372036854775807:=by omega
 have hok:=ok.last
 have hlast:L.last = L.base + L.ents.length:=rfl
 refine enter Tryz.mixed Tryz.func103 rfl (by kernel_rfl) ?_
 cases hd:L.dead with
 | true =>
  rw [hd] at c5
  rw [hd,if_pos rfl] at e0
  rw [e0]
  simp -dsimp [go_sem,c5]
  exact ⟨F,G,V,h,Ch.nw (Kp.refl _ _)⟩
 | false =>
  rw [hd] at c5
  rw [hd,if_neg (by simp)] at e0
  simp -dsimp [go_sem,c5]
  refine call (last_spec l g p L G V w h.lg ok) ?_
  rintro v w1 ⟨rfl,hk1⟩
  by_cases hlo:n < L.last
  ·rw [if_pos (.inl hlo)] at e0
   rw [e0]
   simp -dsimp [go_sem,hlo]
   exact ⟨F,G,V,h.nw hk1,Ch.nw hk1⟩
  by_cases hhi:1099511627776 < n
  ·rw [if_pos (.inr hhi)] at e0
   rw [e0]
   simp -dsimp [go_sem,hlo,hhi]
   exact ⟨F,G,V,h.nw hk1,Ch.nw hk1⟩
  rw [if_neg (by omega)] at e0
  by_cases hbig:524288 < b.length
  ·rw [if_pos hbig] at e0
   have hbig':(524288:Int) < (b.length:Int):=by omega
   rw [e0]
   simp -dsimp [go_sem,hlo,hhi,hbig,hbig']
   exact ⟨F,G,V,h.nw hk1,Ch.nw hk1⟩
  rw [if_neg hbig] at e0
  have hbig':¬ (524288:Int) < (b.length:Int):=by omega
  obtain ⟨N,rfl⟩:∃ N:Nat,n = N:=⟨n.toNat,by omega⟩
  rw [Int.toNat_natCast] at e0
  have hlo':¬ N < L.last:=by omega
  have hhi':¬ 1099511627776 < N:=by omega
  simp -dsimp [go_sem,hlo,hhi,hlo',hhi',hbig,hbig']
  have kW:Nw w1 (w1.alloc (.cells #[.slice none 0 0] 70)):=(Kp.refl _ _).alloc _
  have hW0:=Wr.zero w1
  obtain ⟨q,hq⟩:∃ q,q = w1.heap.size:=⟨_,rfl⟩
  rw [← hq] at hW0 ⊢
  have n3:=hk1.nw kW
  have hqw:w.heap.size ≤ q:=by rw [hq]; exact hk1.size
  have hw3:(w1.alloc (.cells #[.slice none 0 0] 70)).heap.size = q + 1:=by simp [hq]
  generalize w1.alloc (.cells #[.slice none 0 0] 70) = w3 at *
  have kb:Nw w3 (w3.alloc (.cells #[i64 N] 3)):=(Kp.refl _ _).alloc _
  have hW3b:=hW0.kp_ kb fun _ _ h => h
  refine call (wNums_spec q [] [(N:Int)] (At q) (some ⟨q + 1,0,none⟩) 1 _ hW3b (Rd.fresh hw3.symm rfl) (fun a ha _ (e:a.block = q) => by cases ha; have e:q + 1 = q:=e; omega) (by simp)) ?_
  rintro v w4 ⟨rfl,F4,hW4,hG4,hK4⟩
  have n4:Nw w w4:=(n3.nw kb).at_ hK4 fun k (e:k = q) => by omega
  have hF4:∀ k,F4 k → w.heap.size ≤ k:=fun k hk => by
   rcases hG4 k hk with e | e
   ·have e:k = q:=e
    omega
   ·exact Nat.le_trans (n3.nw kb).size e.1
  simp -dsimp [go_sem]
  have kc:Nw w4 (w4.alloc (.cells #[.slice X b.length x] 23)):=(Kp.refl _ _).alloc _
  have hW4b:=hW4.kp_ kc fun _ _ h => h
  have hX4:Ofl X (b.map u8) F4:=hr.ofl hF4
  refine call (wBytes_spec q _ [b] F4 (some ⟨w4.heap.size,0,none⟩) 1 _ hW4b (brs_one1 (Blk.fresh rfl) (fun e => by have:=hW4.lt_ _ e; omega) (hr.nw (n4.nw kc)) hX4 hx) (by
   have:=numsB_len [(N:Int)]
   simp only [List.length_append,List.length_nil,List.length_singleton] at this ⊢
   simp [load]; omega)) ?_
  rintro v w5 ⟨rfl,F5,hW5,hG5,hK5⟩
  have n5:Nw w w5:=(n4.nw kc).at_ hK5 hF4
  have hm62:N ≤ 4611686018427387904:=by omega
  rw [entry_eq N b hm62] at hW5
  have hcl:=entry_len N b hm62 (by omega)
  obtain ⟨C,hC⟩:∃ C,C = numB N ++ rowB b:=⟨_,rfl⟩
  rw [← hC] at hW5 hcl e0
  have h5:=h.nw n5
  simp -dsimp [go_sem]
  have q0:=LS.c0' h5
  have kq:Kp F w5 (World.drew w5):=(Kp.refl _ _).drew
  have kqN:Nw w5 (World.drew w5):=(Kp.refl _ _).drew
  have hqF:=LS.lF h5
  have q0d:=kq.cell_some q0 hqF
  have q1d:=kqN.cell_some (LS.c1' h5) fun h => h
  refine draw (.take 0 (.take 1 (.take 2 (.take 3 (.take 4 (.alt 5 (.alt 6 (.alt 7 (.alt 8 (.take 9 .done) .stop) .stop) .stop) .stop)))))) (by kernel_rfl) (fun wz => Kp F w5 wz) kq ?_
  simp -dsimp [go_sem,q0d]
  refine ⟨fun wz hz => by simp [hz.cell_some q0 hqF],?_⟩
  refine call (imgname_spec l p w5.drew q1d hp) ?_
  rintro v wq ⟨rfl,rfl⟩
  refine ⟨kq,?_⟩
  simp -dsimp [go_sem]
  refine call (wOut_spec q C F5 _ (hW5.kp_ kqN fun _ _ h => h) (by omega)) ?_
  rintro v w6 ⟨hB6,hk6⟩
  obtain ⟨A6,c6,rfl,ho6,hA6⟩:=id hB6
  have n56:=kqN.nw hk6
  refine ⟨Nw.kp n56 _,?_⟩
  simp -dsimp [go_sem]
  have kd:Nw w6 (w6.alloc (.cells #[.slice A6 C.length c6] 23)):=(Kp.refl _ _).alloc _
  have n57:=n56.nw kd
  refine ⟨Nw.kp n57 _,?_⟩
  have hsv:=ksave_spec (imgN p) [C] (some ⟨w6.heap.size,0,none⟩) 1 g D F (fun _ => False) (w6.alloc (.cells #[.slice A6 C.length c6] 23)) (h5.dk.nw n57) (brs_one1 (Blk.fresh rfl) (fun h => h) (ho6.nw kd).rd (fun _ _ _ h => h) ho6.2.1) (by simp) (by simp) (by simp; omega)
  rw [show ([C]:List (List UInt8)).flatten = C by simp] at hsv
  refine call hsv ?_
  rintro v w8 ⟨rfl,F8,hD8,hG8,hK8⟩
  have hK58:=(Nw.kp n57 F).trans hK8 fun _ _ h => h
  refine ⟨hK58,?_⟩
  have hG58:Gr F F8 w5 w8:=Gr.wide hG8 n57.size (Nat.le_refl _)
  obtain ⟨h8,ch8⟩:=Ch.disk h5 hD8 hG58 hK58
  have cw8:=(Ch.nw n5:Ch w w5 F F G G V V).trans ch8
  have hRX:Rd w8 X (b.map u8):=(hr.nw n5).kp hK58 (fun a ha hx hf => hX a ha hx (h.fv _ hf))
  obtain ⟨E,hE⟩:∃ E,E = kSave D (imgN p) C:=⟨_,rfl⟩
  rw [← hE] at e0 h8 ⊢
  obtain ⟨D8,e8⟩:=E
  simp only at h8 ⊢
  by_cases h0:e8 = 0
  ·subst h0
   have ea:wrS (D8,0) (logN p) = rmvs D8 [logN p]:=by unfold wrS; rw [if_neg (fun h => h rfl)]
   rw [ea] at e0
   simp -dsimp [go_sem]
   clear q0 kq kqN hqF q0d q1d
   have q0:=LS.c0' h8
   have kq:Kp F8 w8 (World.drew w8):=(Kp.refl _ _).drew
   have kqN:Nw w8 (World.drew w8):=(Kp.refl _ _).drew
   have hqF:=LS.lF h8
   have q0d:=kq.cell_some q0 hqF
   have q1d:=kqN.cell_some (LS.c1' h8) fun h => h
   refine draw (.take 0 (.take 1 (.take 2 (.take 3 (.take 4 (.alt 5 (.alt 6 (.alt 7 (.take 8 .done) .stop) .stop) .stop)))))) (by kernel_rfl) (fun wz => Kp F8 w8 wz) kq ?_
   simp -dsimp [go_sem,q0d]
   refine ⟨fun wz hz => by simp [hz.cell_some q0 hqF],?_⟩
   refine call (logname_spec l p w8.drew q1d hp) ?_
   rintro v wq ⟨rfl,rfl⟩
   refine ⟨kq,?_⟩
   simp -dsimp [go_sem]
   have kb8:Nw w8 (w8.alloc (.cells #[str (logN p)] 9)).drew:=((Kp.refl _ _).alloc _).drew
   refine ⟨Nw.kp kb8 _,?_⟩
   refine call (removes_spec [logN p] _ 1 g D8 F8 _ (h8.dk.nw kb8) ((Rd.fresh (w:=w8) rfl rfl).nw ((Kp.refl _ _).drew)) (h8.dk.ofl_new (Nat.le_refl _) _) (by simp) (by simpa using hsN)) ?_
   rintro v w9 ⟨rfl,F9,hD9,hG9,hK9⟩
   have hK89:=(Nw.kp kb8 F8).trans hK9 fun _ _ h => h
   refine ⟨hK89,?_⟩
   obtain ⟨h9,ch9⟩:=Ch.disk h8 hD9 (Gr.wide hG9 kb8.size (Nat.le_refl _)) hK89
   have cw9:=cw8.trans ch9
   have hRX9:Rd w9 X (b.map u8):=hRX.kp hK89 (fun a ha hx hf => (hG58 _ hf).elim (fun e => hX a ha hx (h.fv _ e)) fun e => (hr.nw n5).ofl (S:=fun k => w5.heap.size ≤ k) (fun _ h => h) a ha hx e.1)
   obtain ⟨E,hE⟩:∃ E,E = rmvs D8 [logN p]:=⟨_,rfl⟩
   rw [← hE] at e0 h9 ⊢
   obtain ⟨DE,e9⟩:=E
   simp only at h9 ⊢
   by_cases h0:e9 = 0
   ·subst h0
    simp -dsimp [go_sem]
    refine call (dies0_spec l g p L G _ w9 h9.lg hd) ?_
    rintro v wd ⟨rfl,lgd,kdd⟩
    have hGl:=h9.lg.gl
    obtain ⟨hLd,chd⟩:=Ch.own h9 lgd (fun _ h => .inl h) (fun _ h => .inl h) (fun _ h => h) (kdd.mono fun k _ (e:k = l) => e ▸ hGl)
    have ccd:=cw9.trans chd
    have hRd:Rd wd X (b.map u8):=hRX9.kp kdd (fun a ha hx (e:a.block = l) => hX a ha hx (e ▸ h.lg.gv l h.lg.gl))
    have hap:wrL L (DE,0) N b = (DE,⟨N,b,[],false⟩,0):=by unfold wrL; rw [if_neg (fun h => h rfl)]
    rw [hap] at e0
    rw [e0]
    simp -dsimp [go_sem]
    refine call (clone_spec X x b wd hRd (by omega)) ?_
    rintro v we ⟨hBe,hke⟩
    have hLe:=hLd.nw hke
    obtain ⟨lg1,k1⟩:=hLe.lg.set N hBe (fun k hk => hLd.lg.lt k hk)
    obtain ⟨lg2,k2⟩:=lg1.clear
    obtain ⟨Ye,ye,rfl,hoe,hYe⟩:=id hBe
    obtain ⟨B0,d0,A0,c00,vs0,hb5,_⟩:=id hLe.lg
    have q2:=hb5.cell 2
    have q3:=hb5.cell 3
    have q4:=hb5.cell 4
    have f2:=hb5.frozen 2
    have f3:=hb5.frozen 3
    have f4:=hb5.frozen 4
    have k12:=k1.trans k2 fun _ _ h => h
    obtain ⟨hLf,chf⟩:=Ch.own hLe lg2 (fun _ h => .inl h) (fun _ h => .inl h) (fun _ h => h) (k12.mono fun k _ (e:k = l) => e ▸ hGl)
    have eL:({ ({ L with base:=N,data:=b }:Led) with ents:=[] }:Led) = ⟨N,b,[],false⟩:=by rw [← hd]
    rw [eL] at hLf
    obtain ⟨bl,hbl⟩:∃ bl,bl = b.length:=⟨_,rfl⟩
    rw [← hbl] at hLf chf ⊢
    simp -dsimp [go_sem,q2,q3,q4,f2,f3,f4]
    exact ⟨_,_,_,hLf,(ccd.trans (Ch.nw hke)).trans chf⟩
   ·have h0b:((e9:Int) == 0) = false:=by simp; omega
    simp -dsimp [go_sem]
    refine call (dies_spec e9 l g p L G _ w9 (LS.lg h9)) ?_
    rintro v wd ⟨rfl,lgd,kdd⟩
    have hGl:=Lg.gl (LS.lg h9)
    have edd:({ L with dead:=L.dead || decide (e9 ≠ 0) }:Led) = { L with dead:=true }:=by rw [hd]; simp [h0]
    rw [edd] at lgd
    obtain ⟨hLd,chd⟩:=Ch.own h9 lgd (fun _ h => .inl h) (fun _ h => .inl h) (fun _ h => h) (kdd.mono fun k _ (e:k = l) => e ▸ hGl)
    have hap:wrL L (DE,e9) N b = (DE,{ L with dead:=true },e9):=by unfold wrL; rw [if_pos h0]
    rw [hap] at e0
    rw [e0]
    simp -dsimp [go_sem,h0b,h0b]
    exact ⟨_,_,_,hLd,Ch.trans cw9 chd⟩
  ·have h0b:((e8:Int) == 0) = false:=by simp; omega
   have ea:wrS (D8,e8) (logN p) = (D8,e8):=by unfold wrS; rw [if_pos h0]
   rw [ea] at e0
   obtain ⟨DE,hDE⟩:∃ DE,DE = D8:=⟨_,rfl⟩
   rw [← hDE] at e0 h8
   simp -dsimp [go_sem,h0b]
   refine call (dies_spec e8 l g p L G _ w8 (LS.lg h8)) ?_
   rintro v wd ⟨rfl,lgd,kdd⟩
   have hGl:=Lg.gl (LS.lg h8)
   have edd:({ L with dead:=L.dead || decide (e8 ≠ 0) }:Led) = { L with dead:=true }:=by rw [hd]; simp [h0]
   rw [edd] at lgd
   obtain ⟨hLd,chd⟩:=Ch.own h8 lgd (fun _ h => .inl h) (fun _ h => .inl h) (fun _ h => h) (kdd.mono fun k _ (e:k = l) => e ▸ hGl)
   have hap:wrL L (DE,e8) N b = (DE,{ L with dead:=true },e8):=by unfold wrL; rw [if_pos h0]
   rw [hap] at e0
   rw [e0]
   simp -dsimp [go_sem,h0b,h0b]
   exact ⟨_,_,_,hLd,Ch.trans cw8 chd⟩
/-- A ledger and its disk, all of it new since w0. -/
def Lw (w0 w:World) (l g:Nat) (p:Nm) (D:Dsk) (L:Led):Prop:=∃ F G V,LS w l g p D L F G V ∧ L.Ok ∧ (∀ k,V k → w0.heap.size ≤ k) ∧ Nw w0 w
section
variable {w0 w w1:World} {l g:Nat} {p:Nm} {D:Dsk} {L:Led}
theorem Lw.nw (T:Lw w0 w l g p D L) (k:Nw w w1):Lw w0 w1 l g p D L:=by
 obtain ⟨F,G,V,h1,h2,h3,h4⟩:=T
 exact ⟨F,G,V,h1.nw k,h2,h3,h4.nw k⟩
theorem Lw.on (T:Lw w0 w l g p D L):Nw w0 w:=by
 obtain ⟨F,G,V,h1,h2,h3,h4⟩:=T
 exact h4
theorem Lw.ok (T:Lw w0 w l g p D L):D.Ok:=by
 obtain ⟨F,G,V,h1,h2,h3,h4⟩:=T
 exact h1.dk.ok
theorem Lw.lok (T:Lw w0 w l g p D L):L.Ok:=by
 obtain ⟨F,G,V,h1,h2,h3,h4⟩:=T
 exact h2
theorem Lw.of {D1:Dsk} {L1:Led} {F G V:Nat → Prop} (h:LS w l g p D L F G V) (hV:∀ k,V k → w0.heap.size ≤ k) (n:Nw w0 w) (c:ChR w w1 l g p D1 L1 F G V) (ok:L1.Ok):Lw w0 w1 l g p D1 L1:=by
 obtain ⟨F1,G1,V1,h1,ch⟩:=c
 exact ⟨F1,G1,V1,h1,ok,fun k hk => (ch.gV k hk).elim (hV k) fun e => Nat.le_trans n.size e.1,n.at_ ch.kp fun k hk => hk.elim (fun e => hV k (h.fv k e)) fun e => hV k (h.lg.gv k e)⟩
/-- An append of what lay there before, or lies off all that turns. -/
theorem Lw.append (T:Lw w0 w l g p D L) (hp:p.length ≤ 20) (k1:Nw w w1) (b:List UInt8) (X:Option Addr) (x:Nat) (hr:Rd w1 X (b.map u8)) (hX:Rd w0 X (b.map u8) ∨ ∀ k,blk X k → w.heap.size ≤ k) (hx:b.length ≤ x) (hb:b.length ≤ 140737488355328) :
  Cal Tryz.prog 57 #[.pointer (some ⟨l,0,none⟩),.slice X b.length x] w1 fun v w' => v = .tuple #[i64 (lApp D p L b).2.2.1,i64 (lApp D p L b).2.2.2] ∧ Lw w0 w' l g p (lApp D p L b).1 (lApp D p L b).2.1:=by
 obtain ⟨F,G,V,h1,h2,h3,h4⟩:=T
 refine (lapp_spec l g p D L F G V b X x w1 (h1.nw k1) hp h2 hr ?_ hx hb).mono ?_
 ·rcases hX with hX | hX
  ·exact hX.ofl fun k hk => h3 k hk
  ·intro a ha _ hv
   have e1:=hX a.block (by rw [ha]; rfl)
   have e2:=h1.lg.lt _ hv
   omega
 ·rintro v w' ⟨e,c⟩
  exact ⟨e,Lw.of (h1.nw k1) h3 (h4.nw k1) c (lApp_ok h2 D p b)⟩
theorem Lw.write (T:Lw w0 w l g p D L) (hp:p.length ≤ 20) (k1:Nw w w1) (n:Int) (b:List UInt8) (X:Option Addr) (x:Nat) (hr:Rd w1 X (b.map u8)) (hX:Rd w0 X (b.map u8) ∨ ∀ k,blk X k → w.heap.size ≤ k) (hx:b.length ≤ x) (hb:b.length ≤ 140737488355328) :
  Cal Tryz.prog 103 #[.pointer (some ⟨l,0,none⟩),i64 n,.slice X b.length x] w1 fun v w' => v = i64 (lWrite D p L n b).2.2 ∧ Lw w0 w' l g p (lWrite D p L n b).1 (lWrite D p L n b).2.1:=by
 obtain ⟨F,G,V,h1,h2,h3,h4⟩:=T
 refine (lwrite_spec l g p D L F G V n b X x w1 (h1.nw k1) hp h2 hr ?_ hx hb).mono ?_
 ·rcases hX with hX | hX
  ·exact hX.ofl fun k hk => h3 k hk
  ·intro a ha _ hv
   have e1:=hX a.block (by rw [ha]; rfl)
   have e2:=h1.lg.lt _ hv
   omega
 ·rintro v w' ⟨e,c⟩
  exact ⟨e,Lw.of (h1.nw k1) h3 (h4.nw k1) c (lWrite_ok h2 D p n b)⟩
theorem Lw.last (T:Lw w0 w l g p D L):Cal Tryz.prog 96 #[.pointer (some ⟨l,0,none⟩)] w fun v w' => v = i64 L.last ∧ Nw w w':=by
 obtain ⟨F,G,V,h1,h2,h3,h4⟩:=T
 exact last_spec l g p L G V w h1.lg h2
theorem Lw.at_ (T:Lw w0 w l g p D L) (i:Int) (hi:-9223372036854775808 ≤ i):Cal Tryz.prog 110 #[.pointer (some ⟨l,0,none⟩),i64 i] w fun v w' => Nw w w' ∧ ∃ u,v = .tuple #[u,i64 (lAt L i).2] ∧ Bs w' u (lAt L i).1 w.heap.size:=by
 obtain ⟨F,G,V,h1,h2,h3,h4⟩:=T
 exact at_spec i l g p L G V w h1.lg h2 hi
end
set_option maxHeartbeats 1000000
theorem mayL_good {D:Dsk} {ns:List Nm} (h:ns.any badN = false):mayL D ns = if D.left = some 0 then 9 else 0:=by
 unfold mayL
 rw [h]
 rfl
theorem shadow_ne (s:Nm):s ≠ shadow s:=fun h => by
 have:=congrArg List.length h
 simp [shadow] at this
theorem kSave_out {D:Dsk} (ok:D.Ok) {s:Nm} {p:List UInt8} (h1:1 ≤ s.length) (h2:s.length ≤ 60) (hp:p.length ≤ 1048576) (hsh:tLook D.fs (shadow s) = none) (hu:D.used + p.length + 12 ≤ D.room) (hm:D.fs.length < 4096) :
  ((kSave D s p).2 = 0 ∧ (kSave D s p).1.fs = tLay D.fs s ⟨recL p,(recL p).length⟩ ∧ (kSave D s p).1.room = D.room ∧ (D.left = none → (kSave D s p).1.left = none)) ∨
  ((kSave D s p).2 = 9 ∧ D.left ≠ none ∧ ∀ t,t ≠ shadow s → tLook (kSave D s p).1.fs t = tLook D.fs t):=by
 have hb1:badN s = false:=by unfold badN; rw [decide_eq_false (by omega),decide_eq_false (by omega)]; rfl
 have hshl:(shadow s).length = s.length + 1:=by simp [shadow]
 have hb2:badN (shadow s) = false:=by unfold badN; rw [decide_eq_false (by omega),decide_eq_false (by omega)]; rfl
 have e0:kSave D s p = kWhole D s (recL p):=by
  unfold kSave
  rw [if_neg (by omega),if_neg (by omega)]
 have e1:kW1 D (shadow s) = (D,0):=by
  unfold kW1
  rw [hsh]
  rfl
 rw [e0]
 unfold kWhole
 rw [e1,if_neg (fun h => h rfl)]
 unfold kW3
 have hne:=shadow_ne s
 generalize shadow s = sh at *
 have hRl:=recL_len p
 generalize recL p = R at *
 have m1:mayL D [sh] = if D.left = some 0 then 9 else 0:=mayL_good (by simp [hb2])
 by_cases l0:D.left = some 0
 ·have:dAppend D sh R = (D,9):=by
   unfold dAppend
   rw [m1,if_pos l0,if_pos (by decide)]
  rw [this]
  exact .inr ⟨rfl,by rw [l0]; simp,fun t _ => rfl⟩
 ·have hA:dAppend D sh R = (Dsk.done { D with fs:=tLay D.fs sh ⟨R,0⟩ },0):=by
   unfold dAppend
   rw [m1,if_neg l0,if_neg (fun h => h rfl),if_neg (fun h => h.elim (fun h => by omega) fun h => by omega),hsh]
   rfl
  rw [hA]
  simp only [ne_eq,not_true_eq_false,if_false]
  unfold kW4
  have hl4:tLook (Dsk.done { D with fs:=tLay D.fs sh ⟨R,0⟩ }).fs sh = some ⟨R,0⟩:=by simp [Dsk.done,tLook_lay]
  have hleft4:(Dsk.done { D with fs:=tLay D.fs sh ⟨R,0⟩ }).left = D.left.map (· - 1):=rfl
  have hfs4:(Dsk.done { D with fs:=tLay D.fs sh ⟨R,0⟩ }).fs = tLay D.fs sh ⟨R,0⟩:=rfl
  have hroom4:(Dsk.done { D with fs:=tLay D.fs sh ⟨R,0⟩ }).room = D.room:=rfl
  generalize Dsk.done { D with fs:=tLay D.fs sh ⟨R,0⟩ } = D4 at *
  have m4:mayL D4 [sh] = if D4.left = some 0 then 9 else 0:=mayL_good (by simp [hb2])
  by_cases l4:D4.left = some 0
  ·have:dEach fSync D4 [sh] = (D4,9):=by
    simp only [dEach,dStep,m4,if_pos l4]
    simp
   rw [this]
   refine .inr ⟨rfl,(fun h => by rw [hleft4,h] at l4; cases l4),fun t ht => ?_⟩
   show tLook D4.fs t = _
   rw [hfs4,tLook_lay,if_neg ht]
  ·have hC:dEach fSync D4 [sh] = ((fSync D4 sh ⟨R,0⟩).done,0):=by
    simp only [dEach,dStep,m4,if_neg l4,hl4]
    simp
   rw [hC]
   simp only [ne_eq,not_true_eq_false,if_false]
   have hleft5:(fSync D4 sh ⟨R,0⟩).done.left = D4.left.map (· - 1):=rfl
   have hfs5:(fSync D4 sh ⟨R,0⟩).done.fs = tLay D4.fs sh ⟨R,R.length⟩:=rfl
   have hroom5:(fSync D4 sh ⟨R,0⟩).done.room = D4.room:=rfl
   generalize (fSync D4 sh ⟨R,0⟩).done = D5 at *
   have m5:mayL D5 [sh,s] = if D5.left = some 0 then 9 else 0:=mayL_good (by simp [hb1,hb2])
   have hl5:tLook D5.fs sh = some ⟨R,R.length⟩:=by rw [hfs5,tLook_lay,if_pos rfl]
   unfold dRename
   by_cases l5:D5.left = some 0
   ·rw [m5,if_pos l5,if_pos (by decide)]
    refine .inr ⟨rfl,(fun h => by rw [hleft5,hleft4,h] at l5; cases l5),fun t ht => ?_⟩
    show tLook D5.fs t = _
    rw [hfs5,tLook_lay,if_neg ht,hfs4,tLook_lay,if_neg ht]
   ·rw [m5,if_neg l5,if_neg (fun h => h rfl),hl5]
    have hs4:Srt D4.fs:=by rw [hfs4]; exact ok.srt.tLay _ _
    have hs5:Srt D5.fs:=by rw [hfs5]; exact hs4.tLay _ _
    refine .inl ⟨rfl,?_,by show D5.room = _; rw [hroom5,hroom4],fun h => by show D5.left.map _ = _; rw [hleft5,hleft4,h]; rfl⟩
    show tLay (tGone D5.fs sh) s ⟨R,R.length⟩ = _
    refine tLook_ext ((hs5.tGone _).tLay _ _) (ok.srt.tLay _ _) fun t => ?_
    rw [tLook_lay,tLook_lay]
    by_cases hts:t = s
    ·rw [if_pos hts,if_pos hts]
    ·rw [if_neg hts,if_neg hts,tLook_gone hs5]
     by_cases hth:t = sh
     ·rw [if_pos hth,hth,hsh]
     ·rw [if_neg hth,hfs5,tLook_lay,if_neg hth,hfs4,tLook_lay,if_neg hth]
theorem cutF_whole (d:Nat) (b:List UInt8):cutF d ⟨b,b.length⟩ = ⟨b,b.length⟩:=by
 simp [cutF,Nat.mod_one]
def recsB (l:List (List UInt8)):List UInt8:=l.flatMap recL
theorem recsB_take {ps:List (List UInt8)} {k:Nat} (h:k < ps.length):recsB (ps.take (k + 1)) = recsB (ps.take k) ++ recL ps[k]:=by
 unfold recsB
 rw [List.take_succ_eq_append_getElem h,List.flatMap_append]
 simp
theorem recsB_drop {ps:List (List UInt8)} {k:Nat} (h:k < ps.length):recsB (ps.drop k) = recL ps[k] ++ recsB (ps.drop (k + 1)):=by
 unfold recsB
 rw [List.drop_eq_getElem_cons h,List.flatMap_cons]
theorem recsB_len (l:List (List UInt8)):12 * l.length ≤ (recsB l).length:=by
 induction l with
 | nil => simp [recsB]
 | cons p l ih =>
  have:=recL_len p
  unfold recsB at ih ⊢
  rw [List.flatMap_cons,List.length_append,List.length_cons]
  omega
theorem recsB_split (ps:List (List UInt8)) (k:Nat):recsB ps = recsB (ps.take k) ++ recsB (ps.drop k):=by
 unfold recsB
 rw [← List.flatMap_append,List.take_append_drop]
theorem scan_recs (k:Nat) (rest:List UInt8):∀ (l:List (List UInt8)),(∀ p ∈ l,p.length ≤ 1048576) → scanL (k + l.length) (recsB l ++ rest) = (l ++ (scanL k rest).1,(recsB l).length + (scanL k rest).2)
 | [],_ => by simp [recsB]
 | p :: l,h => by
  have e:recsB (p :: l) ++ rest = recL p ++ (recsB l ++ rest):=by simp [recsB]
  have hl:=recL_len p
  have hd:=dec_rec p (recsB l ++ rest) (h p (by simp))
  have ih:=scan_recs k rest l fun q hq => h q (by simp [hq])
  have hn:(recsB (p :: l)).length = p.length + 12 + (recsB l).length:=by
   unfold recsB
   rw [List.flatMap_cons,List.length_append,hl]
  rw [e,List.length_cons,← Nat.add_assoc]
  simp only [scanL]
  rw [if_neg (by rw [List.length_append]; omega),hd]
  simp only [if_true]
  rw [List.drop_left' hl,ih,hn]
  simp only [List.cons_append,Nat.add_assoc]
theorem scan_none {k:Nat} {b:List UInt8} (h:b = [] ∨ (decL b).2.2 ≠ 0):scanL k b = ([],0):=by
 cases k with
 | zero => rfl
 | succ k =>
  simp only [scanL]
  rcases h with rfl | h
  ·rfl
  ·split
   ·rfl
   ·rfl
theorem dec_short (p:List UInt8) (hp:p.length ≤ 1048576) (m:Nat) (hm:m < (recL p).length):(decL ((recL p).take m)).2.2 ≠ 0:=by
 intro h
 obtain ⟨h1,h2,h3⟩:=dec_ok _ h
 have hl:=recL_len p
 rw [List.length_take] at h3
 have h8:8 ≤ m:=by omega
 have t4:((recL p).take m).take 4 = fourL p.length:=by
  rw [List.take_take,Nat.min_eq_left (by omega),recL,headL,List.append_assoc,List.append_assoc,List.append_assoc]
  exact List.take_left' rfl
 have h4:=four_from ((recL p).take m) (by rw [List.length_take]; omega)
 rw [t4] at h4
 have:=fourL_inj (fromL_lt _) (by omega) h4
 omega
/-- Records of which the last is cut. -/
theorem scan_cut (ps:List (List UInt8)) (hp:∀ p ∈ ps,p.length ≤ 1048576) (n k K:Nat) (hn:n ≤ ps.length) (h1:(recsB (ps.take n)).length ≤ k) (h2:n = ps.length ∨ k < (recsB (ps.take (n + 1))).length) (hk:k ≤ (recsB ps).length) (hK:k < K) :
  scanL K ((recsB ps).take k) = (ps.take n,(recsB (ps.take n)).length):=by
 have hlen:=recsB_len (ps.take n)
 have hln:(ps.take n).length = n:=by rw [List.length_take]; omega
 rw [hln] at hlen
 obtain ⟨K',rfl⟩:∃ K',K = K' + (ps.take n).length:=⟨K - n,by omega⟩
 have e:(recsB ps).take k = recsB (ps.take n) ++ (recsB (ps.drop n)).take (k - (recsB (ps.take n)).length):=by
  rw [recsB_split ps n,List.take_append,List.take_of_length_le h1]
 have hnone:scanL K' ((recsB (ps.drop n)).take (k - (recsB (ps.take n)).length)) = ([],0):=by
  refine scan_none ?_
  by_cases hnl:n < ps.length
  ·have hk2:k < (recsB (ps.take (n + 1))).length:=by omega
   rw [recsB_take hnl,List.length_append] at hk2
   refine .inr ?_
   rw [recsB_drop hnl,List.take_append_of_le_length (by omega)]
   exact dec_short _ (hp _ (List.getElem_mem hnl)) _ (by omega)
  ·refine .inl ?_
   rw [List.drop_eq_nil_of_le (by omega)]
   simp [recsB]
 rw [e,scan_recs K' _ (ps.take n) (fun p hp' => hp p (List.mem_of_mem_take hp')),hnone]
 simp
/-- Entries from number k on, as records hold them. -/
def entsP:Nat → List (List UInt8) → List (List UInt8)
 | _,[] => []
 | k,b :: r => (numB k ++ rowB b) :: entsP (k + 1) r
theorem entsP_len:∀ (k:Nat) (r:List (List UInt8)),(entsP k r).length = r.length
 | _,[] => rfl
 | k,b :: r => by simp [entsP,entsP_len (k + 1) r]
theorem entsP_app:∀ (k:Nat) (r s:List (List UInt8)),entsP k (r ++ s) = entsP k r ++ entsP (k + r.length) s
 | k,[],s => by simp [entsP]
 | k,b :: r,s => by simp [entsP,entsP_app (k + 1) r s,Nat.add_assoc,Nat.add_comm 1]
theorem entsP_take:∀ (k:Nat) (r:List (List UInt8)) (n:Nat),(entsP k r).take n = entsP k (r.take n)
 | k,[],n => by simp [entsP]
 | k,b :: r,0 => by simp [entsP]
 | k,b :: r,n + 1 => by simp [entsP,entsP_take (k + 1) r n]
theorem numRow_ent (n:Nat) (b:List UInt8) (hn:n ≤ 4611686018427387904) (hb:b.length ≤ 4611686018427387904):numRow (numB n ++ rowB b) = (true,n,b):=by
 have h1:=numL_numB n (rowB b) false hn
 have h2:=bytL_rowB b [] hb
 rw [List.append_nil] at h2
 unfold numRow
 rw [h1]
 simp only
 rw [h2]
 rfl
theorem takeP_next {base:Nat} {es:List (List UInt8)} {b:List UInt8} (last:Int) (k:Nat) (hk:k = base + es.length + 1) (h40:k ≤ 1099511627776) (hb:b.length ≤ 1073741824) (hl:last < 0 ∨ last = (k:Int) - 1):takeP base last es (numB k ++ rowB b) = some ((k:Int),es ++ [b]):=by
 have hn:=numRow_ent k b (by omega) (by omega)
 unfold takeP
 rw [hn]
 simp only
 rw [if_neg (by simp; omega),if_neg (by omega),if_neg (by omega)]
theorem takeP_old {base:Nat} {es:List (List UInt8)} {b:List UInt8} (last:Int) (k:Nat) (hk:k ≤ base) (h1:1 ≤ k) (h40:k ≤ 1099511627776) (hb:b.length ≤ 1073741824) (hl:last < 0 ∨ last = (k:Int) - 1):takeP base last es (numB k ++ rowB b) = some ((k:Int),es):=by
 have hn:=numRow_ent k b (by omega) (by omega)
 unfold takeP
 rw [hn]
 simp only
 rw [if_neg (by simp; omega),if_pos hk]
/-- Entries that follow are taken. -/
theorem takesP_next {base:Nat}:∀ (r es:List (List UInt8)) (last:Int) (k:Nat),k = base + es.length + 1 → k + r.length ≤ 1099511627777 → (∀ b ∈ r,b.length ≤ 1073741824) → (last < 0 ∨ last = (k:Int) - 1) → ∃ la,takesP base last es (entsP k r) = some (la,es ++ r)
 | [],es,last,k,_,_,_,_ => ⟨last,by simp [entsP,takesP]⟩
 | b :: r,es,last,k,hk,h40,hb,hl => by
  simp only [List.length_cons] at h40
  obtain ⟨la,h⟩:=takesP_next r (es ++ [b]) (k:Int) (k + 1) (by simp; omega) (by omega) (fun x hx => hb x (List.mem_cons_of_mem _ hx)) (.inr (by omega))
  refine ⟨la,?_⟩
  rw [entsP,takesP_cons,takeP_next last k hk (by omega) (hb b (List.mem_cons_self ..)) hl]
  simp only
  rw [h]
  simp
/-- Entries that the image has are left out. -/
theorem takesP_old {base:Nat}:∀ (r:List (List UInt8)) (last:Int) (k:Nat),k + r.length ≤ base + 1 → 1 ≤ k → base ≤ 1099511627776 → (∀ b ∈ r,b.length ≤ 1073741824) → (last < 0 ∨ last = (k:Int) - 1) → ∃ la,takesP base last [] (entsP k r) = some (la,[])
 | [],last,k,_,_,_,_,_ => ⟨last,by simp [entsP,takesP]⟩
 | b :: r,last,k,hk,h1,hb40,hb,hl => by
  simp only [List.length_cons] at hk
  obtain ⟨la,h⟩:=takesP_old r (k:Int) (k + 1) (by omega) (by omega) hb40 (fun x hx => hb x (List.mem_cons_of_mem _ hx)) (.inr (by omega))
  refine ⟨la,?_⟩
  rw [entsP,takesP_cons,takeP_old last k (by omega) h1 (by omega) (hb b (List.mem_cons_self ..)) hl]
  exact h
theorem logN_bad {p:Nm} (h:p.length ≤ 20):badN (logN p) = false:=by
 have:(logN p).length = p.length + 4:=by simp [logN]
 unfold badN
 rw [decide_eq_false (by omega),decide_eq_false (by omega)]; rfl
theorem mayF {D:Dsk} {s:Nm} (hl:D.left = none) (hs:badN s = false):mayL D [s] = 0:=by simp [mayL,hl,hs]
theorem done_free {D:Dsk} (hl:D.left = none):D.done = D:=by unfold Dsk.done; rw [hl]; cases D; simp_all
/-- A file's bytes and what of them lasts, or those of none. -/
def fileD (D:Dsk) (s:Nm):Fil:=(tLook D.fs s).getD .none
theorem app_free {D:Dsk} {s:Nm} {b:List UInt8} (hl:D.left = none) (hs:badN s = false) (hr:D.used + b.length ≤ D.room) (hm:D.fs.length < 4096):dAppend D s b = ({ D with fs:=tLay D.fs s ⟨(fileD D s).b ++ b,(fileD D s).l⟩ },0):=by
 unfold dAppend
 rw [mayF hl hs,if_neg (fun h => h rfl),if_neg (by omega)]
 rw [done_free (by exact hl)]
 rfl
theorem step_free {D:Dsk} {s:Nm} {x:Fil} (f:Dsk → Nm → Fil → Dsk) (hl:D.left = none) (hf:(f D s x).left = none) (hs:badN s = false) (hx:tLook D.fs s = some x):dEach f D [s] = (f D s x,0):=by
 have:dStep f D s = (f D s x,0):=by
  unfold dStep
  rw [mayF hl hs,if_neg (fun h => h rfl),hx]
  simp only
  rw [done_free hf]
 simp [dEach,this]
theorem rmvs1_free {D:Dsk} {s:Nm} (hl:D.left = none) (hs:badN s = false):rmvs D [s] = ({ D with fs:=tGone D.fs s },0):=by
 have:kW1 D s = ({ D with fs:=tGone D.fs s },0):=by
  cases hx:tLook D.fs s with
  | none => rw [kW1_none hx,gone_none hx]
  | some x => rw [kW1_some hx,step_free fRemove hl hl hs hx]; rfl
 simp [rmvs,this]
theorem lay_lay {β:Type} {l:List (Nm × β)} (hl:Srt l) (s:Nm) (f g:β):tLay (tLay l s f) s g = tLay l s g :=
 tLook_ext ((hl.tLay s f).tLay s g) (hl.tLay s g) fun t => by
  simp only [tLook_lay]
  split <;> rfl
/-- An entry appended. -/
theorem lApp_free {D:Dsk} {p:Nm} {L:Led} {b:List UInt8} (ok:D.Ok) (hl:D.left = none) (hp:p.length ≤ 20) (hd:L.dead = false) (h40:L.last < 1099511627776) (hb:b.length ≤ 65536) (hr:D.used + b.length + 30 ≤ D.room) (hm:D.fs.length < 4096) :
  lApp D p L b = ({ D with fs:=tLay D.fs (logN p) ⟨(fileD D (logN p)).b ++ entB (L.last + 1) b,((fileD D (logN p)).b ++ entB (L.last + 1) b).length⟩ },{ L with ents:=L.ents ++ [b] },L.last + 1,0):=by
 have hel:(entB (L.last + 1) b).length ≤ b.length + 30:=by
  have:=entry_len (L.last + 1) b (by omega) (by omega)
  unfold entB
  rw [recL_len]
  omega
 have h1:=app_free (D:=D) (s:=logN p) (b:=entB (L.last + 1) b) hl (logN_bad hp) (by omega) hm
 unfold lApp
 rw [hd,if_neg (by simp),if_neg (by omega),h1]
 unfold apS
 rw [if_neg (fun h => h rfl)]
 simp only
 rw [step_free (D:={ D with fs:=tLay D.fs (logN p) ⟨(fileD D (logN p)).b ++ entB (L.last + 1) b,(fileD D (logN p)).l⟩ }) (s:=logN p) (x:=⟨(fileD D (logN p)).b ++ entB (L.last + 1) b,(fileD D (logN p)).l⟩) fSync hl hl (logN_bad hp) (by simp only [tLook_lay,if_pos])]
 unfold apL
 rw [if_neg (fun h => h rfl)]
 unfold fSync
 simp only [lay_lay ok.srt]
 rw [hd]
/-- An image written. -/
theorem lWrite_free {D:Dsk} {p:Nm} {L:Led} {n:Nat} {b:List UInt8} (ok:D.Ok) (hl:D.left = none) (hp:p.length ≤ 20) (hd:L.dead = false) (h1:L.last ≤ n) (h40:n ≤ 1099511627776) (hb:b.length ≤ 524288) (hsh:tLook D.fs (shadow (imgN p)) = none) (hr:D.used + b.length + 30 ≤ D.room) (hm:D.fs.length < 4096) :
  lWrite D p L n b = ({ D with fs:=tGone (tLay D.fs (imgN p) ⟨recL (numB n ++ rowB b),(recL (numB n ++ rowB b)).length⟩) (logN p) },⟨n,b,[],false⟩,0):=by
 have hil:(imgN p).length = p.length + 4:=by simp [imgN]
 have hcl:=entry_len n b (by omega) (by omega)
 unfold lWrite
 rw [hd,if_neg (by simp),if_neg (by omega),if_neg (by omega),Int.toNat_natCast]
 rcases kSave_out ok (s:=imgN p) (p:=numB n ++ rowB b) (by omega) (by omega) (by omega) hsh (by omega) hm with ⟨e1,e2,e3,e4⟩ | ⟨_,e2,_⟩
 ·have e5:kSave D (imgN p) (numB n ++ rowB b) = ({ D with fs:=tLay D.fs (imgN p) ⟨recL (numB n ++ rowB b),(recL (numB n ++ rowB b)).length⟩ },0):=by
   have e4:=e4 hl
   generalize kSave D (imgN p) (numB n ++ rowB b) = R at *
   obtain ⟨⟨r,fs,lf⟩,e⟩:=R
   simp only at e1 e2 e3 e4
   rw [e1,e2,e3,e4,hl]
  rw [e5]
  unfold wrS
  rw [if_neg (fun h => h rfl)]
  simp only
  rw [rmvs1_free (by exact hl) (logN_bad hp)]
  unfold wrL
  rw [if_neg (fun h => h rfl)]
 ·exact absurd hl e2
/-- What an unlit disk is, and how full. -/
structure Free (D:Dsk) (u m:Nat):Prop where
 ok:D.Ok
 left:D.left = none
 used:D.used ≤ u
 many:D.fs.length ≤ m
theorem used_lay {D:Dsk} (ok:D.Ok) (s:Nm) (f:Fil):Dsk.used { D with fs:=tLay D.fs s f } + (fileD D s).b.length = D.used + f.b.length:=by
 have h:=sumv_lay ok.srt (fun f:Fil => f.b.length) s f
 have e:((tLook D.fs s).map fun f:Fil => f.b.length).getD 0 = (fileD D s).b.length:=by unfold fileD; cases tLook D.fs s <;> rfl
 rw [e] at h
 exact h
theorem img_log (p:Nm):imgN p ≠ logN p:=fun h => by
 unfold imgN logN at h
 have:=List.append_cancel_left h
 simp at this
theorem img_sh (p:Nm):imgN p ≠ shadow (imgN p):=shadow_ne _
theorem log_sh (p:Nm):logN p ≠ shadow (imgN p):=fun h => by
 have:=congrArg List.length h
 simp [logN,imgN,shadow] at this
theorem lApp_out {D:Dsk} {p:Nm} {L:Led} {b:List UInt8} {u m:Nat} (h:Free D u m) (hp:p.length ≤ 20) (hd:L.dead = false) (h40:L.last < 1099511627776) (hb:b.length ≤ 65536) (hr:u + b.length + 30 ≤ D.room) (hm:m < 4096) :
  ∃ D',lApp D p L b = (D',{ L with ents:=L.ents ++ [b] },L.last + 1,0) ∧ Free D' (u + b.length + 30) (m + 1) ∧ D'.room = D.room ∧ tLook D'.fs (logN p) = some ⟨(fileD D (logN p)).b ++ entB (L.last + 1) b,((fileD D (logN p)).b ++ entB (L.last + 1) b).length⟩ ∧ ∀ t,t ≠ logN p → tLook D'.fs t = tLook D.fs t:=by
 have hu:=h.used
 have hmn:=h.many
 have e:=lApp_free (D:=D) (p:=p) (L:=L) (b:=b) h.ok h.left hp hd h40 hb (by omega) (by omega)
 have hel:(entB (L.last + 1) b).length ≤ b.length + 30:=by
  have:=entry_len (L.last + 1) b (by omega) (by omega)
  unfold entB
  rw [recL_len]
  omega
 obtain ⟨X,hX⟩:∃ X,X = (fileD D (logN p)).b ++ entB (L.last + 1) b:=⟨_,rfl⟩
 have hXl:X.length = (fileD D (logN p)).b.length + (entB (L.last + 1) b).length:=by rw [hX,List.length_append]
 rw [← hX] at e ⊢
 have hul:=used_lay h.ok (logN p) ⟨X,X.length⟩
 simp only at hul
 have hll:=lay_len h.ok.srt (logN p) (⟨X,X.length⟩:Fil)
 have hlN:(logN p).length = p.length + 4:=by simp [logN]
 refine ⟨_,e,⟨h.ok.lay _ _ (Nat.le_refl _) ?_ (fun _ => by omega) (by omega),h.left,by omega,?_⟩,rfl,by simp only [tLook_lay,if_pos],fun t ht => by simp only [tLook_lay,if_neg ht]⟩
 ·have e2:((tLook D.fs (logN p)).getD .none).b.length = (fileD D (logN p)).b.length:=rfl
  rw [e2]
  simp only
  omega
 ·simp only [hll]
  split <;> omega
theorem lWrite_out {D:Dsk} {p:Nm} {L:Led} {n:Nat} {b:List UInt8} {u m:Nat} (h:Free D u m) (hp:p.length ≤ 20) (hd:L.dead = false) (h1:L.last ≤ n) (h40:n ≤ 1099511627776) (hb:b.length ≤ 524288) (hsh:tLook D.fs (shadow (imgN p)) = none) (hr:u + b.length + 30 ≤ D.room) (hm:m < 4096) :
  ∃ D',lWrite D p L n b = (D',⟨n,b,[],false⟩,0) ∧ Free D' (u + b.length + 30) (m + 1) ∧ D'.room = D.room ∧ tLook D'.fs (imgN p) = some ⟨recL (numB n ++ rowB b),(recL (numB n ++ rowB b)).length⟩ ∧ tLook D'.fs (logN p) = none ∧ ∀ t,t ≠ logN p → t ≠ imgN p → tLook D'.fs t = tLook D.fs t:=by
 have hu:=h.used
 have hmn:=h.many
 have e:=lWrite_free (D:=D) (p:=p) (L:=L) (n:=n) (b:=b) h.ok h.left hp hd h1 h40 hb hsh (by omega) (by omega)
 have hcl:=entry_len n b (by omega) (by omega)
 have hrl:=recL_len (numB n ++ rowB b)
 generalize numB n ++ rowB b = C at *
 generalize recL C = R at *
 have hiN:(imgN p).length = p.length + 4:=by simp [imgN]
 have hul:=used_lay h.ok (imgN p) ⟨R,R.length⟩
 have hok1:Dsk.Ok { D with fs:=tLay D.fs (imgN p) ⟨R,R.length⟩ }:=h.ok.lay _ _ (Nat.le_refl _) (by simp only; omega) (fun _ => by omega) (by omega)
 have hok2:=hok1.rem (logN p)
 have hll:=lay_len h.ok.srt (imgN p) (⟨R,R.length⟩:Fil)
 have hgl:=Go.Vc.gone_len (tLay D.fs (imgN p) (⟨R,R.length⟩:Fil)) (logN p)
 have hsg:=sumv_gone (tLay D.fs (imgN p) (⟨R,R.length⟩:Fil)) (fun f:Fil => f.b.length) (logN p)
 have hs:Srt (tLay D.fs (imgN p) (⟨R,R.length⟩:Fil)):=h.ok.srt.tLay _ _
 refine ⟨_,e,⟨hok2,h.left,?_,?_⟩,rfl,?_,?_,fun t ht1 ht2 => ?_⟩
 ·have e1:Dsk.used { D with fs:=tLay D.fs (imgN p) ⟨R,R.length⟩ } = sumv (fun f:Fil => f.b.length) (tLay D.fs (imgN p) ⟨R,R.length⟩):=rfl
  show sumv (fun f:Fil => f.b.length) (tGone (tLay D.fs (imgN p) ⟨R,R.length⟩) (logN p)) ≤ _
  simp only at hul
  omega
 ·simp only
  rw [hgl,hll]
  split <;> split <;> omega
 ·simp only [tLook_gone hs,if_neg (img_log p),tLook_lay,if_pos]
 ·simp only [tLook_gone hs,if_pos]
 ·simp only [tLook_gone hs,if_neg ht1,tLook_lay,if_neg ht2]
/-- Nothing there. -/
theorem opn_none {D:Dsk} {p:Nm} (h1:tLook D.fs (shadow (imgN p)) = none) (h2:tLook D.fs (imgN p) = none) (h3:tLook D.fs (logN p) = none):opn D p = (D,0,Led.zero):=by
 have e1:rmvs D [shadow (imgN p)] = (D,0):=by simp [rmvs,kW1_none h1]
 have e2:kLoad D (imgN p) = ([],7):=by unfold kLoad dRead; rw [h2]; simp
 have e3:imgL D p = (0,[],0):=by unfold imgL; rw [e2]; simp
 have e4:logL D p 0 = (D,0,[]):=by unfold logL; rw [h3]
 unfold opn opn2
 rw [e1]
 simp only [ne_eq,not_true_eq_false,if_false]
 unfold opn3
 rw [e3]
 simp only [ne_eq,not_true_eq_false,if_false]
 rw [e4]
 rfl
end Go.Proofs.YtellahclbhfdiaaGreatDoor
