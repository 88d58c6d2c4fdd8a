/-
  The reference's ledger: Open walked. By the session itself. The ledger's statements: known; LedgerOfNothing walked. By the session itself. A store opened; begin; known, walked. By the session itself.
-/
import Derived.Test.YtellahclbhfdiaaGreatDoorZ35
import Derived.Test.YtellahclbhfdiaaGreatDoorZ26
import Derived.Test.YtellahclbhfdiaaGreatDoorZ32
namespace Go.Proofs.YtellahclbhfdiaaGreatDoor
set_option linter.unusedSimpArgs false
set_option linter.unusedVariables false
set_option maxRecDepth 100000
set_option maxHeartbeats 2000000
open Go.Vc Go.RowKit
theorem dTrunc_ok {D:Dsk} (h:D.Ok) (s:Nm) (n:Int):(dTrunc D s n).1.Ok:=by
 unfold dTrunc
 split
 ·exact h
 ·split
  ·exact h
  ·rename_i x hx
   split
   ·exact h
   ·refine (h.lay s _ ?_ ?_ (fun e => by rw [hx] at e; cases e) (h.names s x hx)).done
    ·have:=h.lasts s x hx
     simp only [List.length_take]; omega
    ·rw [hx]
     have:=h.used
     simp only [Option.getD_some,List.length_take]; omega
theorem rmvs_one (D:Dsk) (s:Nm):rmvs D [s] = kW1 D s:=by
 simp only [rmvs]
 split
 ·rfl
 ·rename_i h
  have h:(kW1 D s).2 = 0:=by simpa using h
  rw [← h]
/-- What opening comes to. -/
def ROpenR (w w':World) (v:Value) (g:Nat) (p:Nm) (R:Dsk × Nat × Led) (F:Nat → Prop):Prop :=
 ∃ F',RefD w' g R.1 F' ∧ Gr F F' w w' ∧ Kp F w w' ∧ ((R.2.1 ≠ 0 ∧ v = .tuple #[.pointer none,i64 R.2.1]) ∨ (R.2.1 = 0 ∧ ∃ l G' V',v = .tuple #[.pointer (some ⟨l,0,none⟩),i64 0] ∧ RS w' l g p R.1 R.2.2 F' G' V' ∧ R.2.2.Ok ∧ Gr F V' w w'))
theorem ropen_spec (g:Nat) (p:Nm) (D:Dsk) (F:Nat → Prop) (w:World) (h:RefD w g D F) (ok:D.Ok) (hFl:∀ k,F k → k < w.heap.size) (hp1:1 ≤ p.length) (hp2:p.length ≤ 20) :
  Cal Tryz.prog 70 #[.pointer (some ⟨g,0,none⟩),str p] w fun v w' => ROpenR w w' v g p (opn D p) F:=by
 refine enter Tryz.mixed Tryz.func70 rfl (by kernel_rfl) ?_
 have h1':¬ (p.length:Int) < 1:=by omega
 have h1n:¬ p.length < 1:=by omega
 have h2':¬ (20:Int) < (p.length:Int):=by omega
 have h2n:¬ 20 < p.length:=by omega
 have hn5:¬ 9223372036854775807 < p.length + 5:=by omega
 have hn4:¬ 9223372036854775807 < p.length + 4:=by omega
 have hcat:(⟨p.toArray⟩:ByteArray) ++ ⟨#[45,105,109,103,126]⟩ = ⟨(shadow (imgN p)).toArray⟩:=by
  have:=cat_str p [45,105,109,103,126]
  rw [show p ++ [45,105,109,103,126] = shadow (imgN p) by simp [shadow,imgN]] at this
  exact this
 have hcatL:(⟨p.toArray⟩:ByteArray) ++ ⟨#[45,108,111,103]⟩ = ⟨(logN p).toArray⟩:=cat_str p [45,108,111,103]
 have hsl:(shadow (imgN p)).length ≤ 9223372036854775807:=by simp [shadow,imgN]; omega
 have hsN:(logN p).length ≤ 9223372036854775807:=by simp [logN]; omega
 have eopn:opn D p = opn2 (kW1 D (shadow (imgN p))) p:=by unfold opn; rw [rmvs_one]
 rw [eopn]
 clear eopn
 generalize shadow (imgN p) = sh at *
 obtain ⟨lN,hlN⟩:∃ lN,lN = logN p:=⟨_,rfl⟩
 rw [← hlN] at hcatL hsN
 simp -dsimp [go_sem,h1',h1n,h2',h2n]
 have kl:Nw w (w.alloc (.cells #[.pointer (some ⟨g,0,none⟩),str p,i64 0,.slice none 0 0,.slice none 0 0,.bool false] 127)):=(Kp.refl _ _).alloc _
 have hb0:=Blk.new w 127 #[.pointer (some ⟨g,0,none⟩),str p,i64 0,.slice none 0 0,.slice none 0 0,.bool false]
 obtain ⟨l,hl⟩:∃ l,l = w.heap.size:=⟨_,rfl⟩
 rw [← hl] at hb0 ⊢
 have hls:(w.alloc (.cells #[.pointer (some ⟨g,0,none⟩),str p,i64 0,.slice none 0 0,.slice none 0 0,.bool false] 127)).heap.size = l + 1:=by simp [hl]
 have h0:RS (w.alloc (.cells #[.pointer (some ⟨g,0,none⟩),str p,i64 0,.slice none 0 0,.slice none 0 0,.bool false] 127)) l g p D Led.zero F (At l) (fun k => F k ∨ k = l) :=
  ⟨h.nw kl,⟨none,0,none,0,[],hb0,Rd.nil _ _,(fun a ha => by cases ha),Nat.le_refl _,Ow.nil _ _ _,RV.nil _ _,by simp [Off],fun k hk => hk.elim id fun e => e.elim,fun k e => .inr e,fun k hk => hk.elim (fun e => by have:=hFl k e; omega) fun e => by omega⟩,fun k hk => .inl hk,fun k hk (e:k = l) => by have:=hFl k hk; omega⟩
 generalize w.alloc (.cells #[.pointer (some ⟨g,0,none⟩),str p,i64 0,.slice none 0 0,.slice none 0 0,.bool false] 127) = w1 at *
 have gW0:Gr F (fun k => F k ∨ k = l) w w1:=fun k hk => hk.imp id fun e => ⟨by omega,by omega⟩
 simp -dsimp [go_sem,hn5,hcat]
 refine call (rlhas_spec sh l g D F w1 h0.lg.c0 h0.dk ok) ?_
 rintro v w2 ⟨rfl,hk2⟩
 have n2:=kl.nw hk2
 have h2:=h0.nw hk2
 cases hx:tLook D.fs sh with
 | none =>
  rw [kW1_none hx]
  simp -dsimp [go_sem]
  have eo:opn2 (D,0) p = opn3 D p (imgL D p):=rfl
  rw [eo]
  clear eo
  have hio:=imgL_ok ok p
  have eo:opn3 D p (imgL D p) = if (imgL D p).2.2 ≠ 0 then (D,(imgL D p).2.2,⟨0,[],[],false⟩) else ((logL D p (imgL D p).1).1,(logL D p (imgL D p).1).2.1,⟨(imgL D p).1,(imgL D p).2.1,(logL D p (imgL D p).1).2.2,false⟩):=rfl
  refine call (rimage_spec l g p D F _ _ w2 h2 ok hp2) ?_
  rintro v w4 ⟨rfl,hL4,hK4⟩
  have hR4:RS w4 l g p D _ F _ _:=RS.own h2 hL4 (fun k hk => .inl hk) (fun k hk => hk) (hK4.mono fun k _ (e:k = l) => e ▸ (RS.lg h2).gl)
  have kF4:Kp F w w4:=Kp.trans (Nw.kp n2 F) hK4 fun k hk (e:k = l) => by omega
  have gF4:Gr F F w w4:=Gr.wide (fun k hk => .inl hk) (Nat.le_refl _) hK4.size
  have gW4:Gr F _ w w4:=Gr.wide (Gr.wide gW0 (Nat.le_refl _) hk2.size) (Nat.le_refl _) hK4.size
  obtain ⟨I,hI⟩:∃ I,I = imgL D p:=⟨_,rfl⟩
  rw [← hI] at eo hio hR4 ⊢
  obtain ⟨n,data,e⟩:=I
  simp only at eo hio hR4 ⊢
  by_cases he:e = 0
  ·subst he
   rw [if_neg (fun h => h rfl)] at eo
   obtain ⟨hnb,hdb⟩:=hio rfl
   have okI:Led.Ok ⟨n,data,[],false⟩:=⟨by simpa using hnb,hdb,by simp⟩
   simp -dsimp [go_sem,hn4,hcatL]
   refine call (rread_spec lN g D F w4 hR4.dk ok) ?_
   rintro v w5 ⟨hk5,u,rfl,hB5⟩
   have eL:logL D p n = match tLook (Dsk.fs D) lN with
    | none => (D,0,[])
    | some x => logOf D lN n x.b:=by rw [hlN]; rfl
   have h5:=hR4.nw hk5
   cases hx:tLook (Dsk.fs D) lN with
   | none =>
    rw [hx] at eL
    simp only at eL
    rw [eL] at eo
    have e7:(dRead D lN).2 = 7:=by unfold dRead; rw [hx]
    rw [e7,eo]
    simp -dsimp [go_sem]
    exact ⟨F,h5.dk,Gr.wide gF4 (Nat.le_refl _) hk5.size,kF4.nw hk5,.inr ⟨rfl,l,_,_,rfl,h5,okI,Gr.wide gW4 (Nat.le_refl _) hk5.size⟩⟩
   | some f =>
    rw [hx] at eL
    simp only at eL
    have hrd:dRead D lN = (f.b,0):=by unfold dRead; rw [hx]
    have hfl:f.b.length ≤ 1073741824:=by have:=dRead_len ok lN; rw [hrd] at this; exact this
    rw [hrd] at hB5 ⊢
    obtain ⟨X,x,rfl,hoX,hX⟩:=id hB5
    simp only at hoX ⊢
    obtain ⟨b,hb⟩:∃ b,b = f.b:=⟨_,rfl⟩
    rw [← hb] at eL hoX hfl ⊢
    simp -dsimp [go_sem]
    refine call (rentries_spec l g p D ⟨n,data,[],false⟩ F _ _ b X x w5 h5 okI rfl hoX.rd hoX.2.1 hfl) ?_
    rintro v w7 ⟨hE,hK7⟩
    have elo:logOf D lN n b = match takesP n (-1) [] (scanL (b.length + 1) b).1 with
     | none => (D,3,[])
     | some q => logFin D lN (scanL (b.length + 1) b).2 b.length q.2:=rfl
    rw [elo] at eL
    clear elo
    generalize (scanL (b.length + 1) b).1 = rows at *
    generalize (scanL (b.length + 1) b).2 = good at *
    have kF5:=kF4.nw hk5
    have gF5:Gr F F w w5:=Gr.wide gF4 (Nat.le_refl _) hk5.size
    have gW5:Gr F _ w w5:=Gr.wide gW4 (Nat.le_refl _) hk5.size
    have hG5:∀ k,At l k → w.heap.size ≤ k:=fun k (e:k = l) => by omega
    have kF:Kp F w w7:=kF5.trans hK7 fun k hk h => by have:=hG5 k h; omega
    rcases hE with ⟨hq,rfl⟩ | ⟨q,hq,rfl,okL,G7,V7,hL7,gG7,gV7,hVV7⟩
    ·simp only at hq
     rw [hq] at eL
     simp only at eL
     rw [eL] at eo
     rw [eo]
     simp -dsimp [go_sem]
     exact ⟨F,h5.dk.kp hK7 (fun i hi hg => h5.dj i hi hg),Gr.wide gF5 (Nat.le_refl _) hK7.size,kF,.inl ⟨by simp,rfl⟩⟩
    ·simp only at hq hL7
     rw [hq] at eL
     simp only at eL okL
     have h7:RS w7 l g p D _ F G7 V7:=h5.own hL7 gG7 hVV7 hK7
     obtain ⟨last,es⟩:=q
     simp only at eL okL h7
     have e2:logFin D lN good b.length es = if (cutIf D lN good b.length).2 ≠ 0 then ((cutIf D lN good b.length).1,(cutIf D lN good b.length).2,es) else ((emptyIf (cutIf D lN good b.length).1 lN es).1,(emptyIf (cutIf D lN good b.length).1 lN es).2,es):=rfl
     rw [e2] at eL
     clear e2
     have gF:Gr F F w w7:=Gr.wide gF5 (Nat.le_refl _) hK7.size
     have gV:Gr F V7 w w7:=Gr.trans gW5 gV7 kF5.size hK7.size
     by_cases hgd:good < b.length
     ·have hgd':(good:Int) < (b.length:Int):=by omega
      have ec:cutIf D lN good b.length = cutS D lN good:=by unfold cutIf; rw [if_pos hgd]
      rw [ec] at eL
      simp -dsimp [go_sem,hgd,hgd',hn4,hcatL]
      refine call (rtrunc_spec lN good g D F w7 h7.dk ok hsN) ?_
      rintro v w8 ⟨rfl,F8,hD8,hG8,hK8⟩
      obtain ⟨h8,gV8⟩:=h7.disk hD8 hG8 hK8
      have ok8:=dTrunc_ok ok lN good
      have ecs:cutS D lN good = if (dTrunc D lN good).2 ≠ 0 then dTrunc D lN good else dStep fSync (dTrunc D lN good).1 lN:=by unfold cutS; rw [dEach_one]
      rw [ecs] at eL
      clear ecs
      have kF8:=Kp.gr kF gF hK8
      have gF8:=Gr.trans gF hG8 kF.size hK8.size
      have gVV8:=Gr.trans gV gV8 kF.size hK8.size
      obtain ⟨R,hR⟩:∃ R,R = dTrunc D lN good:=⟨_,rfl⟩
      rw [← hR] at eL hD8 h8 ok8 ⊢
      obtain ⟨D8,e8⟩:=R
      simp only at eL hD8 h8 ok8 ⊢
      by_cases h0:e8 = 0
      ·subst h0
       rw [if_neg (show ¬ (0:Nat) ≠ 0 from fun h => h rfl)] at eL
       simp -dsimp [go_sem,hn4,hcatL]
       refine call (rsync_spec lN g D8 F8 w8 h8.dk ok8 hsN) ?_
       rintro v w9 ⟨rfl,F9,hD9,hG9,hK9⟩
       obtain ⟨h9,gV9⟩:=h8.disk hD9 hG9 hK9
       have ok9:=dSync_ok ok8 lN
       have kF9:=Kp.gr kF8 gF8 hK9
       have gF9:=Gr.trans gF8 hG9 kF8.size hK9.size
       have gVV9:=Gr.trans gVV8 gV9 kF8.size hK9.size
       obtain ⟨R,hR⟩:∃ R,R = dStep fSync D8 lN:=⟨_,rfl⟩
       rw [← hR] at eL hD9 h9 ok9 ⊢
       obtain ⟨D9,e9⟩:=R
       simp only at eL hD9 h9 ok9 ⊢
       by_cases h1:e9 = 0
       ·subst h1
        rw [if_neg (fun h => h rfl)] at eL
        rw [eL] at eo
        have e0:=eo
        simp only at e0
        clear eo eL kF gF gV h7
        have kF:=kF9
        have gF:=gF9
        have gV:=gVV9
        have h7:=h9
        obtain ⟨B9,d9,A9,c9,vs9,hb9,_⟩:=id h7.lg
        obtain ⟨nes,hnes⟩:∃ nes,nes = es.length:=⟨_,rfl⟩
        have l4:World.cell? w9 ⟨l,4,none⟩ = some (.slice A9 nes c9):=hnes ▸ hb9.cell 4
        by_cases hes:nes = 0
        ·have ee:emptyIf D9 lN es = dStep fRemove D9 lN:=by unfold emptyIf; rw [if_pos (by omega),dEach_one]
         rw [ee] at e0
         have hes':((nes:Int) == 0) = true:=by simp; omega
         simp -dsimp [go_sem,l4,hes',hes,hn4,hcatL]
         refine call (rremove_spec lN g D9 F9 _ h7.dk ok9 hsN) ?_
         rintro v wE ⟨rfl,FE,hDE,hGE,hKE⟩
         obtain ⟨h8',gV8'⟩:=h7.disk hDE hGE hKE
         obtain ⟨R,hR⟩:∃ R,R = dStep fRemove D9 lN:=⟨_,rfl⟩
         rw [← hR] at e0 hDE h8' ⊢
         obtain ⟨DE,eE⟩:=R
         simp only at e0 hDE h8' ⊢
         rw [e0]
         have kE:=Kp.gr kF gF hKE
         by_cases hz:eE = 0
         ·subst hz
          simp -dsimp [go_sem]
          exact ⟨FE,hDE,Gr.trans gF hGE kF.size hKE.size,kE,.inr ⟨rfl,l,_,_,rfl,h8',okL,Gr.trans gV gV8' kF.size hKE.size⟩⟩
         ·have hz':((eE:Int) != 0) = true:=by simp; omega
          simp -dsimp [go_sem,hz',hz]
          exact ⟨FE,hDE,Gr.trans gF hGE kF.size hKE.size,kE,.inl ⟨hz,rfl⟩⟩
        ·have ee:emptyIf D9 lN es = (D9,0):=by unfold emptyIf; rw [if_neg (by omega)]
         rw [ee] at e0
         rw [e0]
         have hes':((nes:Int) == 0) = false:=by simp; omega
         simp -dsimp [go_sem,l4,hes',hes]
         exact ⟨F9,h7.dk,gF,kF,.inr ⟨rfl,l,_,_,rfl,h7,okL,gV⟩⟩
       ·have h1':((e9:Int) != 0) = true:=by simp; omega
        have h1'':((e9:Int) == 0) = false:=by simp; omega
        rw [if_pos h1] at eL
        rw [eL] at eo
        rw [eo]
        simp -dsimp [go_sem,h1',h1'',h1]
        exact ⟨F9,hD9,gF9,kF9,.inl ⟨h1,rfl⟩⟩
      ·have h0':((e8:Int) != 0) = true:=by simp; omega
       have h0'':((e8:Int) == 0) = false:=by simp; omega
       rw [if_pos h0,if_pos h0] at eL
       rw [eL] at eo
       rw [eo]
       simp -dsimp [go_sem,h0',h0'',h0]
       exact ⟨F8,hD8,gF8,kF8,.inl ⟨h0,rfl⟩⟩
     ·have hgd':¬ (good:Int) < (b.length:Int):=by omega
      have ec:cutIf D lN good b.length = (D,0):=by unfold cutIf; rw [if_neg hgd]
      rw [ec,if_neg (fun h => h rfl)] at eL
      simp only at eL
      rw [eL] at eo
      have e0:=eo
      simp only at e0
      simp -dsimp [go_sem,hgd,hgd']
      obtain ⟨B9,d9,A9,c9,vs9,hb9,_⟩:=id h7.lg
      obtain ⟨nes,hnes⟩:∃ nes,nes = es.length:=⟨_,rfl⟩
      have l4:World.cell? w7 ⟨l,4,none⟩ = some (.slice A9 nes c9):=hnes ▸ hb9.cell 4
      by_cases hes:nes = 0
      ·have ee:emptyIf D lN es = dStep fRemove D lN:=by unfold emptyIf; rw [if_pos (by omega),dEach_one]
       rw [ee] at e0
       have hes':((nes:Int) == 0) = true:=by simp; omega
       simp -dsimp [go_sem,l4,hes',hes,hn4,hcatL]
       refine call (rremove_spec lN g D F _ h7.dk ok hsN) ?_
       rintro v wE ⟨rfl,FE,hDE,hGE,hKE⟩
       obtain ⟨h8',gV8'⟩:=h7.disk hDE hGE hKE
       obtain ⟨R,hR⟩:∃ R,R = dStep fRemove D lN:=⟨_,rfl⟩
       rw [← hR] at e0 hDE h8' ⊢
       obtain ⟨DE,eE⟩:=R
       simp only at e0 hDE h8' ⊢
       rw [e0]
       have kE:=Kp.gr kF gF hKE
       by_cases hz:eE = 0
       ·subst hz
        simp -dsimp [go_sem]
        exact ⟨FE,hDE,Gr.trans gF hGE kF.size hKE.size,kE,.inr ⟨rfl,l,_,_,rfl,h8',okL,Gr.trans gV gV8' kF.size hKE.size⟩⟩
       ·have hz':((eE:Int) != 0) = true:=by simp; omega
        simp -dsimp [go_sem,hz',hz]
        exact ⟨FE,hDE,Gr.trans gF hGE kF.size hKE.size,kE,.inl ⟨hz,rfl⟩⟩
      ·have ee:emptyIf D lN es = (D,0):=by unfold emptyIf; rw [if_neg (by omega)]
       rw [ee] at e0
       rw [e0]
       have hes':((nes:Int) == 0) = false:=by simp; omega
       simp -dsimp [go_sem,l4,hes',hes]
       exact ⟨F,h7.dk,gF,kF,.inr ⟨rfl,l,_,_,rfl,h7,okL,gV⟩⟩
  ·rw [if_pos he] at eo
   have he':((e:Int) != 0) = true:=by simp; omega
   rw [eo]
   simp -dsimp [go_sem,he',he]
   exact ⟨F,hR4.dk,gF4,kF4,.inl ⟨he,rfl⟩⟩
 | some y =>
  rw [kW1_some hx,dEach_one]
  simp -dsimp [go_sem,hn5,hcat]
  refine call (rremove_spec sh g D F w2 h2.dk ok hsl) ?_
  rintro v w3 ⟨rfl,F3,hD3,hG3,hK3⟩
  obtain ⟨h3,gV3⟩:=h2.disk hD3 hG3 hK3
  have ok3:=dRemove_ok ok sh
  have kF3:=(Nw.kp n2 F).trans hK3 fun _ _ h => h
  have gF3:Gr F F3 w w3:=Gr.wide hG3 n2.size (Nat.le_refl _)
  have gW3:=Gr.trans (Gr.wide gW0 (Nat.le_refl _) hk2.size) gV3 n2.size hK3.size
  obtain ⟨R,hR⟩:∃ R,R = dStep fRemove D sh:=⟨_,rfl⟩
  rw [← hR] at hD3 h3 ok3 ⊢
  obtain ⟨D3,e3⟩:=R
  simp only at hD3 h3 ok3 ⊢
  by_cases he3:e3 = 0
  ·subst he3
   simp -dsimp [go_sem]
   have eo:opn2 (D3,0) p = opn3 D3 p (imgL D3 p):=rfl
   rw [eo]
   clear eo
   have hio:=imgL_ok ok3 p
   have eo:opn3 D3 p (imgL D3 p) = if (imgL D3 p).2.2 ≠ 0 then (D3,(imgL D3 p).2.2,⟨0,[],[],false⟩) else ((logL D3 p (imgL D3 p).1).1,(logL D3 p (imgL D3 p).1).2.1,⟨(imgL D3 p).1,(imgL D3 p).2.1,(logL D3 p (imgL D3 p).1).2.2,false⟩):=rfl
   refine call (rimage_spec l g p D3 F3 _ _ w3 h3 ok3 hp2) ?_
   rintro v w4 ⟨rfl,hL4,hK4⟩
   have hR4:RS w4 l g p D3 _ F3 _ _:=RS.own h3 hL4 (fun k hk => .inl hk) (fun k hk => hk) (hK4.mono fun k _ (e:k = l) => e ▸ (RS.lg h3).gl)
   have kF4:Kp F w w4:=Kp.trans kF3 hK4 fun k hk (e:k = l) => by omega
   have gF4:Gr F F3 w w4:=Gr.wide gF3 (Nat.le_refl _) hK4.size
   have gW4:Gr F _ w w4:=Gr.wide gW3 (Nat.le_refl _) hK4.size
   obtain ⟨I,hI⟩:∃ I,I = imgL D3 p:=⟨_,rfl⟩
   rw [← hI] at eo hio hR4 ⊢
   obtain ⟨n,data,e⟩:=I
   simp only at eo hio hR4 ⊢
   by_cases he:e = 0
   ·subst he
    rw [if_neg (fun h => h rfl)] at eo
    obtain ⟨hnb,hdb⟩:=hio rfl
    have okI:Led.Ok ⟨n,data,[],false⟩:=⟨by simpa using hnb,hdb,by simp⟩
    simp -dsimp [go_sem,hn4,hcatL]
    refine call (rread_spec lN g D3 F3 w4 hR4.dk ok3) ?_
    rintro v w5 ⟨hk5,u,rfl,hB5⟩
    have eL:logL D3 p n = match tLook (Dsk.fs D3) lN with
     | none => (D3,0,[])
     | some x => logOf D3 lN n x.b:=by rw [hlN]; rfl
    have h5:=hR4.nw hk5
    cases hx:tLook (Dsk.fs D3) lN with
    | none =>
     rw [hx] at eL
     simp only at eL
     rw [eL] at eo
     have e7:(dRead D3 lN).2 = 7:=by unfold dRead; rw [hx]
     rw [e7,eo]
     simp -dsimp [go_sem]
     exact ⟨F3,h5.dk,Gr.wide gF4 (Nat.le_refl _) hk5.size,kF4.nw hk5,.inr ⟨rfl,l,_,_,rfl,h5,okI,Gr.wide gW4 (Nat.le_refl _) hk5.size⟩⟩
    | some f =>
     rw [hx] at eL
     simp only at eL
     have hrd:dRead D3 lN = (f.b,0):=by unfold dRead; rw [hx]
     have hfl:f.b.length ≤ 1073741824:=by have:=dRead_len ok3 lN; rw [hrd] at this; exact this
     rw [hrd] at hB5 ⊢
     obtain ⟨X,x,rfl,hoX,hX⟩:=id hB5
     simp only at hoX ⊢
     obtain ⟨b,hb⟩:∃ b,b = f.b:=⟨_,rfl⟩
     rw [← hb] at eL hoX hfl ⊢
     simp -dsimp [go_sem]
     refine call (rentries_spec l g p D3 ⟨n,data,[],false⟩ F3 _ _ b X x w5 h5 okI rfl hoX.rd hoX.2.1 hfl) ?_
     rintro v w7 ⟨hE,hK7⟩
     have elo:logOf D3 lN n b = match takesP n (-1) [] (scanL (b.length + 1) b).1 with
      | none => (D3,3,[])
      | some q => logFin D3 lN (scanL (b.length + 1) b).2 b.length q.2:=rfl
     rw [elo] at eL
     clear elo
     generalize (scanL (b.length + 1) b).1 = rows at *
     generalize (scanL (b.length + 1) b).2 = good at *
     have kF5:=kF4.nw hk5
     have gF5:Gr F F3 w w5:=Gr.wide gF4 (Nat.le_refl _) hk5.size
     have gW5:Gr F _ w w5:=Gr.wide gW4 (Nat.le_refl _) hk5.size
     have hG5:∀ k,At l k → w.heap.size ≤ k:=fun k (e:k = l) => by omega
     have kF:Kp F w w7:=kF5.trans hK7 fun k hk h => by have:=hG5 k h; omega
     rcases hE with ⟨hq,rfl⟩ | ⟨q,hq,rfl,okL,G7,V7,hL7,gG7,gV7,hVV7⟩
     ·simp only at hq
      rw [hq] at eL
      simp only at eL
      rw [eL] at eo
      rw [eo]
      simp -dsimp [go_sem]
      exact ⟨F3,h5.dk.kp hK7 (fun i hi hg => h5.dj i hi hg),Gr.wide gF5 (Nat.le_refl _) hK7.size,kF,.inl ⟨by simp,rfl⟩⟩
     ·simp only at hq hL7
      rw [hq] at eL
      simp only at eL okL
      have h7:RS w7 l g p D3 _ F3 G7 V7:=h5.own hL7 gG7 hVV7 hK7
      obtain ⟨last,es⟩:=q
      simp only at eL okL h7
      have e2:logFin D3 lN good b.length es = if (cutIf D3 lN good b.length).2 ≠ 0 then ((cutIf D3 lN good b.length).1,(cutIf D3 lN good b.length).2,es) else ((emptyIf (cutIf D3 lN good b.length).1 lN es).1,(emptyIf (cutIf D3 lN good b.length).1 lN es).2,es):=rfl
      rw [e2] at eL
      clear e2
      have gF:Gr F F3 w w7:=Gr.wide gF5 (Nat.le_refl _) hK7.size
      have gV:Gr F V7 w w7:=Gr.trans gW5 gV7 kF5.size hK7.size
      by_cases hgd:good < b.length
      ·have hgd':(good:Int) < (b.length:Int):=by omega
       have ec:cutIf D3 lN good b.length = cutS D3 lN good:=by unfold cutIf; rw [if_pos hgd]
       rw [ec] at eL
       simp -dsimp [go_sem,hgd,hgd',hn4,hcatL]
       refine call (rtrunc_spec lN good g D3 F3 w7 h7.dk ok3 hsN) ?_
       rintro v w8 ⟨rfl,F8,hD8,hG8,hK8⟩
       obtain ⟨h8,gV8⟩:=h7.disk hD8 hG8 hK8
       have ok8:=dTrunc_ok ok3 lN good
       have ecs:cutS D3 lN good = if (dTrunc D3 lN good).2 ≠ 0 then dTrunc D3 lN good else dStep fSync (dTrunc D3 lN good).1 lN:=by unfold cutS; rw [dEach_one]
       rw [ecs] at eL
       clear ecs
       have kF8:=Kp.gr kF gF hK8
       have gF8:=Gr.trans gF hG8 kF.size hK8.size
       have gVV8:=Gr.trans gV gV8 kF.size hK8.size
       obtain ⟨R,hR⟩:∃ R,R = dTrunc D3 lN good:=⟨_,rfl⟩
       rw [← hR] at eL hD8 h8 ok8 ⊢
       obtain ⟨D8,e8⟩:=R
       simp only at eL hD8 h8 ok8 ⊢
       by_cases h0:e8 = 0
       ·subst h0
        rw [if_neg (show ¬ (0:Nat) ≠ 0 from fun h => h rfl)] at eL
        simp -dsimp [go_sem,hn4,hcatL]
        refine call (rsync_spec lN g D8 F8 w8 h8.dk ok8 hsN) ?_
        rintro v w9 ⟨rfl,F9,hD9,hG9,hK9⟩
        obtain ⟨h9,gV9⟩:=h8.disk hD9 hG9 hK9
        have ok9:=dSync_ok ok8 lN
        have kF9:=Kp.gr kF8 gF8 hK9
        have gF9:=Gr.trans gF8 hG9 kF8.size hK9.size
        have gVV9:=Gr.trans gVV8 gV9 kF8.size hK9.size
        obtain ⟨R,hR⟩:∃ R,R = dStep fSync D8 lN:=⟨_,rfl⟩
        rw [← hR] at eL hD9 h9 ok9 ⊢
        obtain ⟨D9,e9⟩:=R
        simp only at eL hD9 h9 ok9 ⊢
        by_cases h1:e9 = 0
        ·subst h1
         rw [if_neg (fun h => h rfl)] at eL
         rw [eL] at eo
         have e0:=eo
         simp only at e0
         clear eo eL kF gF gV h7
         have kF:=kF9
         have gF:=gF9
         have gV:=gVV9
         have h7:=h9
         obtain ⟨B9,d9,A9,c9,vs9,hb9,_⟩:=id h7.lg
         obtain ⟨nes,hnes⟩:∃ nes,nes = es.length:=⟨_,rfl⟩
         have l4:World.cell? w9 ⟨l,4,none⟩ = some (.slice A9 nes c9):=hnes ▸ hb9.cell 4
         by_cases hes:nes = 0
         ·have ee:emptyIf D9 lN es = dStep fRemove D9 lN:=by unfold emptyIf; rw [if_pos (by omega),dEach_one]
          rw [ee] at e0
          have hes':((nes:Int) == 0) = true:=by simp; omega
          simp -dsimp [go_sem,l4,hes',hes,hn4,hcatL]
          refine call (rremove_spec lN g D9 F9 _ h7.dk ok9 hsN) ?_
          rintro v wE ⟨rfl,FE,hDE,hGE,hKE⟩
          obtain ⟨h8',gV8'⟩:=h7.disk hDE hGE hKE
          obtain ⟨R,hR⟩:∃ R,R = dStep fRemove D9 lN:=⟨_,rfl⟩
          rw [← hR] at e0 hDE h8' ⊢
          obtain ⟨DE,eE⟩:=R
          simp only at e0 hDE h8' ⊢
          rw [e0]
          have kE:=Kp.gr kF gF hKE
          by_cases hz:eE = 0
          ·subst hz
           simp -dsimp [go_sem]
           exact ⟨FE,hDE,Gr.trans gF hGE kF.size hKE.size,kE,.inr ⟨rfl,l,_,_,rfl,h8',okL,Gr.trans gV gV8' kF.size hKE.size⟩⟩
          ·have hz':((eE:Int) != 0) = true:=by simp; omega
           simp -dsimp [go_sem,hz',hz]
           exact ⟨FE,hDE,Gr.trans gF hGE kF.size hKE.size,kE,.inl ⟨hz,rfl⟩⟩
         ·have ee:emptyIf D9 lN es = (D9,0):=by unfold emptyIf; rw [if_neg (by omega)]
          rw [ee] at e0
          rw [e0]
          have hes':((nes:Int) == 0) = false:=by simp; omega
          simp -dsimp [go_sem,l4,hes',hes]
          exact ⟨F9,h7.dk,gF,kF,.inr ⟨rfl,l,_,_,rfl,h7,okL,gV⟩⟩
        ·have h1':((e9:Int) != 0) = true:=by simp; omega
         have h1'':((e9:Int) == 0) = false:=by simp; omega
         rw [if_pos h1] at eL
         rw [eL] at eo
         rw [eo]
         simp -dsimp [go_sem,h1',h1'',h1]
         exact ⟨F9,hD9,gF9,kF9,.inl ⟨h1,rfl⟩⟩
       ·have h0':((e8:Int) != 0) = true:=by simp; omega
        have h0'':((e8:Int) == 0) = false:=by simp; omega
        rw [if_pos h0,if_pos h0] at eL
        rw [eL] at eo
        rw [eo]
        simp -dsimp [go_sem,h0',h0'',h0]
        exact ⟨F8,hD8,gF8,kF8,.inl ⟨h0,rfl⟩⟩
      ·have hgd':¬ (good:Int) < (b.length:Int):=by omega
       have ec:cutIf D3 lN good b.length = (D3,0):=by unfold cutIf; rw [if_neg hgd]
       rw [ec,if_neg (fun h => h rfl)] at eL
       simp only at eL
       rw [eL] at eo
       have e0:=eo
       simp only at e0
       simp -dsimp [go_sem,hgd,hgd']
       obtain ⟨B9,d9,A9,c9,vs9,hb9,_⟩:=id h7.lg
       obtain ⟨nes,hnes⟩:∃ nes,nes = es.length:=⟨_,rfl⟩
       have l4:World.cell? w7 ⟨l,4,none⟩ = some (.slice A9 nes c9):=hnes ▸ hb9.cell 4
       by_cases hes:nes = 0
       ·have ee:emptyIf D3 lN es = dStep fRemove D3 lN:=by unfold emptyIf; rw [if_pos (by omega),dEach_one]
        rw [ee] at e0
        have hes':((nes:Int) == 0) = true:=by simp; omega
        simp -dsimp [go_sem,l4,hes',hes,hn4,hcatL]
        refine call (rremove_spec lN g D3 F3 _ h7.dk ok3 hsN) ?_
        rintro v wE ⟨rfl,FE,hDE,hGE,hKE⟩
        obtain ⟨h8',gV8'⟩:=h7.disk hDE hGE hKE
        obtain ⟨R,hR⟩:∃ R,R = dStep fRemove D3 lN:=⟨_,rfl⟩
        rw [← hR] at e0 hDE h8' ⊢
        obtain ⟨DE,eE⟩:=R
        simp only at e0 hDE h8' ⊢
        rw [e0]
        have kE:=Kp.gr kF gF hKE
        by_cases hz:eE = 0
        ·subst hz
         simp -dsimp [go_sem]
         exact ⟨FE,hDE,Gr.trans gF hGE kF.size hKE.size,kE,.inr ⟨rfl,l,_,_,rfl,h8',okL,Gr.trans gV gV8' kF.size hKE.size⟩⟩
        ·have hz':((eE:Int) != 0) = true:=by simp; omega
         simp -dsimp [go_sem,hz',hz]
         exact ⟨FE,hDE,Gr.trans gF hGE kF.size hKE.size,kE,.inl ⟨hz,rfl⟩⟩
       ·have ee:emptyIf D3 lN es = (D3,0):=by unfold emptyIf; rw [if_neg (by omega)]
        rw [ee] at e0
        rw [e0]
        have hes':((nes:Int) == 0) = false:=by simp; omega
        simp -dsimp [go_sem,l4,hes',hes]
        exact ⟨F3,h7.dk,gF,kF,.inr ⟨rfl,l,_,_,rfl,h7,okL,gV⟩⟩
   ·rw [if_pos he] at eo
    have he':((e:Int) != 0) = true:=by simp; omega
    rw [eo]
    simp -dsimp [go_sem,he',he]
    exact ⟨F3,hR4.dk,gF4,kF4,.inl ⟨he,rfl⟩⟩
  ·have eo:opn2 (D3,e3) p = (D3,e3,⟨0,[],[],false⟩):=by unfold opn2; rw [if_pos he3]
   have he':((e3:Int) != 0) = true:=by simp; omega
   have he'':((e3:Int) == 0) = false:=by simp; omega
   rw [eo]
   simp -dsimp [go_sem,he',he'',he3]
   exact ⟨F3,hD3,gF3,kF3,.inl ⟨he3,rfl⟩⟩
/-- A state of no users, off whatever lay there before. -/
theorem empty_specV (V:Nat → Prop) (w:World) (hV:∀ k,V k → k < w.heap.size):Cal Tryz.prog 108 #[] w fun v w' => ∃ t FS,v = .pointer (some ⟨t,0,none⟩) ∧ Nw w w' ∧ (∀ k,FS k → w.heap.size ≤ k ∧ k < w'.heap.size) ∧ SttA w' t Stt.zero FS (fun k => V k ∨ FS k):=by
 refine (empty_spec w).mono ?_
 rintro v w' ⟨rfl,n,hs,r,ptr,rb,vb,Fs,hM⟩
 refine ⟨_,(fun i => i = w.heap.size ∨ i = w.heap.size + 1),rfl,n,fun k hk => by omega,r,ptr,rb,vb,Fs,hM.blk,hM.mp,fun s u h => (by cases h),hM.apart,hM.inn,hM.ne,hM.ft,hM.fr,hM.lt,fun k hk => .inr hk⟩
/-- What loading a ledger's state comes to. -/
def LoadR (w w':World) (v:Value) (T:Stt) (V:Nat → Prop):Prop:=∃ t FS,v = .tuple #[.pointer (some ⟨t,0,none⟩),i64 0] ∧ Nw w w' ∧ (∀ k,FS k → w.heap.size ≤ k ∧ k < w'.heap.size) ∧ SttA w' t T FS (fun k => V k ∨ FS k)
theorem loaded0_spec (l g:Nat) (G V:Nat → Prop) (w:World) (h:Lg w l g mailN Led.zero G V) (ok:Led.zero.Ok) :
  Cal Tryz.prog 60 #[.pointer (some ⟨l,0,none⟩)] w fun v w' => LoadR w w' v Stt.zero V:=by
 refine enter Tryz.mixed Tryz.func60 rfl (by kernel_rfl) ?_
 simp -dsimp [go_sem]
 refine call (empty_specV V w h.lt) ?_
 rintro v w1 ⟨t,FS,rfl,k1,hFS,hT⟩
 have h1:=h.nw k1
 simp -dsimp [go_sem]
 refine call (base_spec l g mailN Led.zero G V w1 h1 ok) ?_
 rintro v w2 ⟨k2,u,rfl,hB⟩
 have h2:=h1.nw k2
 obtain ⟨X,x,rfl,hoX,hX⟩:=hB
 have hw1:IntKind.i64.wrap 1 = 1:=w64 (by omega) (by omega)
 have e1:Led.zero.base = 0:=rfl
 have e2:Led.zero.data.length = 0:=rfl
 rw [e1,e2]
 simp -dsimp [go_sem,hw1]
 refine loop [2,3,8,9,10,11,12,13,37,38,39,40,41,42,43,44,45,46,47,48,49,50,51,52,53,54,55,56,57,58,59,60,61,62,63,64] (by kernel_rfl)
  (fun f w' => Box1 (fun a w' => a = i64 1 ∧ w' = w2) (f 8) w') (fun f _ => 0) ⟨rfl,rfl⟩ ?_
 rintro f w' ⟨f8,rfl⟩
 simp -dsimp [go_sem,f8]
 refine call (last_spec l g mailN Led.zero G V w' h2 ok) ?_
 rintro v w3 ⟨rfl,k3⟩
 have e3:(Led.zero.last:Int) = 0:=rfl
 rw [e3]
 simp -dsimp [go_sem]
 have n13:=k2.nw k3
 exact ⟨t,FS,rfl,(k1.nw k2).nw k3,fun k hk => ⟨(hFS k hk).1,Nat.lt_of_lt_of_le (hFS k hk).2 n13.size⟩,hT.nw n13⟩
/-- What opening a store comes to. -/
def SOpenR (w w':World) (v:Value) (g:Nat) (S:Sto) (F:Nat → Prop):Prop:=∃ s l t F' G FS V,v = .tuple #[.pointer (some ⟨s,0,none⟩),i64 0] ∧ StM w' s g l t S F' G FS V ∧ Gr F V w w' ∧ Kp F w w'
theorem sopen_of (g:Nat) (D D':Dsk) (L:Led) (T:Stt) (F:Nat → Prop) (w:World) (h:Dk w g D F) (ho:opn D mailN = (D',0,L))
  (hl:∀ (l:Nat) (G V:Nat → Prop) (W:World),Lg W l g mailN L G V → L.Ok → Cal Tryz.prog 60 #[.pointer (some ⟨l,0,none⟩)] W fun v w' => LoadR W w' v T V) :
  Cal Tryz.prog 17 #[.pointer (some ⟨g,0,none⟩)] w fun v w' => SOpenR w w' v g ⟨D',L,T,false⟩ F:=by
 refine enter Tryz.mixed Tryz.func17 rfl (by kernel_rfl) ?_
 simp -dsimp [go_sem]
 refine call (open_spec g mailN D F w h (by decide) (by decide)) ?_
 rw [ho]
 rintro v w1 ⟨F1,hD1,gF1,kF1,⟨hne,_⟩ | ⟨_,l,G1,V1,rfl,hL1,okL,gV1⟩⟩
 ·exact absurd rfl hne
 simp only at hD1 hL1 okL
 simp -dsimp [go_sem]
 refine call (hl l G1 V1 w1 hL1.lg okL) ?_
 rintro v w2 ⟨t,FS,rfl,k2,hFS,hT⟩
 have hL2:=hL1.nw k2
 have hV1l:=hL1.lg.lt
 simp -dsimp [go_sem]
 have ka:Nw w2 (w2.alloc (.cells #[.pointer (some ⟨l,0,none⟩),.pointer (some ⟨t,0,none⟩),.bool false] 97)):=(Kp.refl _ _).alloc _
 have hb:=Blk.new w2 97 #[.pointer (some ⟨l,0,none⟩),.pointer (some ⟨t,0,none⟩),.bool false]
 have hs2:w2.heap.size < (w2.alloc (.cells #[.pointer (some ⟨l,0,none⟩),.pointer (some ⟨t,0,none⟩),.bool false] 97)).heap.size:=hb.lt
 have s12:=k2.size
 have sw1:=kF1.size
 have ska:=ka.size
 refine ⟨w2.heap.size,l,t,F1,G1,FS,fun k => (V1 k ∨ FS k) ∨ k = w2.heap.size,rfl,⟨hb,?_,okL,?_,?_,.inr rfl,?_⟩,?_,(kF1.nw k2).nw ka⟩
 ·exact hL1.step (k2.nw ka) (fun _ h => h.elim) (fun i hi => by
   rcases hi with (hi | hi) | hi
   ·exact .inl hi
   ·have:=hFS i hi; exact .inr ⟨by omega,by omega⟩
   ·exact .inr ⟨by omega,by omega⟩) fun i hi => .inl (.inl hi)
 ·exact hT.step ka (fun _ h => h.elim) (fun i hi => hi.imp id fun e => ⟨by omega,by omega⟩) fun i hi => .inl hi
 ·exact fun i hi => ⟨fun e => by have:=hV1l i (hL1.fv i e); have:=hFS i hi; omega,fun e => by have:=hV1l i (hL1.lg.gv i e); have:=hFS i hi; omega⟩
 ·exact ⟨fun e => by have:=hV1l _ (hL1.fv _ e); omega,fun e => by have:=hV1l _ (hL1.lg.gv _ e); omega,fun e => by have:=hFS _ e; omega⟩
 ·intro k hk
  rcases hk with (hk | hk) | hk
  ·exact (gV1 k hk).imp id fun e => ⟨e.1,by omega⟩
  ·have:=hFS k hk; exact .inr ⟨by omega,by omega⟩
  ·exact .inr ⟨by omega,by omega⟩
theorem sopen0_spec (g:Nat) (F:Nat → Prop) (w:World) (h:Dk w g Dsk.fresh F):Cal Tryz.prog 17 #[.pointer (some ⟨g,0,none⟩)] w fun v w' => SOpenR w w' v g Sto.fresh F :=
 sopen_of g Dsk.fresh Dsk.fresh Led.zero Stt.zero F w h fresh_open fun l G V W hL ok => loaded0_spec l g G V W hL ok
end Go.Proofs.YtellahclbhfdiaaGreatDoor
