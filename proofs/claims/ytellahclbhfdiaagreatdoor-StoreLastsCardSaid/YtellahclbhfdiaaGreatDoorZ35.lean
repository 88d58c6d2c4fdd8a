/-
  The reference's ledger: entries walked. By the session itself.
-/
import Derived.Test.YtellahclbhfdiaaGreatDoorZ34
namespace Go.Proofs.YtellahclbhfdiaaGreatDoor
set_option linter.unusedSimpArgs false
set_option linter.unusedVariables false
set_option maxRecDepth 100000
set_option maxHeartbeats 2000000
open Go.Vc Go.RowKit
/-- What taking entries in comes to. -/
def EntR (w w':World) (v:Value) (l g:Nat) (p:Nm) (L:Led) (good:Nat) (G V:Nat → Prop) (o:Option (Int × List (List UInt8))):Prop :=
 (o = none ∧ v = .tuple #[i64 3,i64 0]) ∨ ∃ q,o = some q ∧ v = .tuple #[i64 0,i64 good] ∧ ({ L with ents:=q.2 }:Led).Ok ∧ ∃ G' V',Rl w' l g p { L with ents:=q.2 } G' V' ∧ Gr G G' w w' ∧ Gr V V' w w' ∧ ∀ i,V i → V' i
theorem rentries_spec (l g:Nat) (p:Nm) (D:Dsk) (L:Led) (F G V:Nat → Prop) (b:List UInt8) (X:Option Addr) (x:Nat) (w:World) (h:RS w l g p D L F G V) (ok:L.Ok) (he:L.ents = []) (hrX:Rd w X (b.map u8)) (hx:b.length ≤ x) (hb:b.length ≤ 1073741824) :
  Cal Tryz.prog 134 #[.pointer (some ⟨l,0,none⟩),.slice X b.length x] w fun v w' => EntR w w' v l g p L (scanL (b.length + 1) b).2 G V (takesP L.base (-1) [] (scanL (b.length + 1) b).1) ∧ Kp G w w':=by
 refine enter Tryz.mixed Tryz.func134 rfl (by kernel_rfl) ?_
 simp -dsimp [go_sem]
 refine call (refScan_spec b X x w hrX hx (by omega)) ?_
 rintro v w1 ⟨hk1,u,rfl,hRs⟩
 have hsl:=scanL_len' (b.length + 1) b
 generalize (scanL (b.length + 1) b).1 = rows at *
 generalize (scanL (b.length + 1) b).2 = good at *
 obtain ⟨A5,c5,rfl,hbr,hc5⟩:=hRs.brs2
 have hGw:∀ k,G k → k < w.heap.size:=fun k hk => h.lg.lt k (h.lg.gv k hk)
 have h1:=h.nw hk1
 simp -dsimp [go_sem]
 refine loop [4,5,8,9,10,11,12,18,19,20,21,22,23,24,25,26,27,28,29,30,31,32,33,34,35,36,37,38,39,40,41,42,43,44,45,46,47,48,49,50,51,52,53,54,55,56,57,58,59,60,61,62,63,64,65,66,67,68,69,70,71,72,73,74,75,76] (by kernel_rfl)
  (fun f w' => Box2 (fun a u w' => ∃ (i:Nat) (last l8:Int) (es:List (List UInt8)) (G1 V1:Nat → Prop),a = i64 i ∧ u = i64 l8 ∧ i ≤ rows.length ∧ takesP L.base (-1) [] rows = takesP L.base last es (rows.drop i) ∧ Rl w' l g p { L with ents:=es } G1 V1 ∧
   Gr G G1 w1 w' ∧ Gr V V1 w1 w' ∧ (∀ k,V k → V1 k) ∧ Kp G w1 w' ∧ ((i = 0 ∧ last = -1 ∧ l8 = 0) ∨ (0 < i ∧ last = l8 ∧ 1 ≤ last)) ∧ last ≤ 1099511627776 ∧ Led.Ok { L with ents:=es }) (f 9) (f 8) w') (fun f _ => rows.length - (intOf (f 9)).toNat)
  ⟨0,-1,0,[],G,V,rfl,rfl,Nat.zero_le _,rfl,by rw [← he]; exact h1.lg,fun k hk => .inl hk,fun k hk => .inl hk,fun k hk => hk,Kp.refl _ _,.inl ⟨rfl,rfl,rfl⟩,by omega,by rw [← he]; exact ok⟩ ?_
 rintro f w7 ⟨i,last,l8,es,G1,V1,f9,f8,hi,htk,lg7,gG,gV,hVV,hK7,hla,hl2,ok7⟩
 have kw7:Kp G w w7:=(Nw.kp hk1 G).trans hK7 fun _ _ h => h
 by_cases hlt:i < rows.length
 ·have hi1:IntKind.i64.wrap ((i:Int) + 1) = ((i + 1:Nat):Int):=w64 (by omega) (by omega)
  obtain ⟨i1,hi1'⟩:∃ i1,i1 = i + 1:=⟨_,rfl⟩
  have hbr7:=hbr.kp (hK7.mono fun k _ hk => .inl (hGw k hk))
  obtain ⟨vs,hvl,hrd7,hoA,hi'⟩:=hbr7
  obtain ⟨Y,y,hv,hrY,hoY,hy⟩:=hi' i hlt
  obtain ⟨bb,o,rfl,hcell⟩:=hrd7 i _ hv
  have hrl:=hsl.2 _ (List.getElem_mem hlt)
  rw [List.drop_eq_getElem_cons hlt,takesP_cons] at htk
  rw [← hi1'] at hi1 htk
  generalize rows[i] = rec at *
  have htp:=@takeP_some L.base last es rec
  have e0:takeP L.base last es rec = if (numRow rec).1 = false ∨ (numRow rec).2.1 < 1 ∨ 1099511627776 < (numRow rec).2.1 ∨ (0 ≤ last ∧ ((numRow rec).2.1:Int) ≠ last + 1) then none
   else if (numRow rec).2.1 ≤ L.base then some (((numRow rec).2.1:Int),es) else if (numRow rec).2.1 ≠ L.base + es.length + 1 then none else some (((numRow rec).2.1:Int),es ++ [(numRow rec).2.2]):=rfl
  have en:numRow rec = (!(bytL (numL rec false).2.1 (numL rec false).2.2).2.2 && (bytL (numL rec false).2.1 (numL rec false).2.2).2.1.isEmpty,(numL rec false).1,(bytL (numL rec false).2.1 (numL rec false).2.2).1):=rfl
  rw [en] at e0
  simp only at e0
  have hnle:=numL_le rec false
  have hnl:=numL_len rec false
  have hbl:=bytL_len (numL rec false).2.1 (numL rec false).2.2
  simp -dsimp [go_sem,f9,hlt,hcell]
  simp [go_sem]
  have ka:Nw w7 (w7.alloc (.cells #[.slice Y rec.length y,.bool false] 85)):=(Kp.refl _ _).alloc _
  have hRd:=RefR.new hrY hy
  have hrs:w7.heap.size < (w7.alloc (.cells #[.slice Y rec.length y,.bool false] 85)).heap.size:=by simp
  obtain ⟨r,hr⟩:∃ r,r = w7.heap.size:=⟨_,rfl⟩
  rw [← hr] at hRd hrs ⊢
  have hL8:Rl _ l g p _ G1 (fun k => V1 k ∨ k = r):=lg7.step ka (fun _ h => h.elim) (fun k hk => hk.imp id fun e => by subst e; exact ⟨by omega,hrs⟩) fun k hk => .inl hk
  have k78:=hK7.nw ka
  generalize w7.alloc (.cells #[.slice Y rec.length y,.bool false] 85) = w8 at *
  have hG1w:∀ k,G1 k → k < w7.heap.size:=fun k hk => lg7.lt k (lg7.gv k hk)
  have hSr:∀ i,i = r → (V1 i ∨ i = r) ∧ ¬ G1 i:=fun i e => ⟨.inr e,fun hg => by have:=hG1w i hg; omega⟩
  refine call (refNumT_spec r rec false _ w8 hRd (by omega)) ?_
  rintro v w9 ⟨rfl,hRd9,hk9⟩
  have hL9:=hL8.kp hk9 hSr
  have hwr:w1.heap.size ≤ r:=by have:=hK7.size; omega
  have k9:Kp G w1 w9:=k78.trans hk9 fun k hk (e:k = r) => by omega
  simp -dsimp [go_sem]
  refine call (refBytesT_spec r _ _ _ w9 hRd9 (by omega)) ?_
  rintro v w10 ⟨hB10,hRd10,hk10⟩
  have hL10:=hL9.kp hk10 hSr
  have hV9:=hL9.lt
  have k10:Kp G w1 w10:=k9.trans hk10 fun k hk (e:k = r) => by omega
  obtain ⟨Z,z,rfl,hoZ,hZ⟩:=id hB10
  generalize (bytL (numL rec false).2.1 (numL rec false).2.2).2.2 = bad at *
  generalize (bytL (numL rec false).2.1 (numL rec false).2.2).2.1 = rest at *
  generalize (bytL (numL rec false).2.1 (numL rec false).2.2).1 = ent at *
  generalize (numL rec false).1 = n at *
  simp -dsimp [go_sem]
  refine call (refWhole_spec r rest bad _ w10 hRd10) ?_
  rintro u w11 ⟨rfl,rfl⟩
  have kw10:Kp G w w10:=(Nw.kp hk1 G).trans k10 fun _ _ h => h
  have hnone:takeP L.base last es rec = none → takesP L.base (-1) [] rows = none:=fun e => by rw [htk,e]
  have hsome:∀ q,takeP L.base last es rec = some q → takesP L.base (-1) [] rows = takesP L.base q.1 q.2 (rows.drop i1):=fun q e => by rw [htk,e]
  cases hwh:(!bad && rest.isEmpty) with
  | false =>
   rw [hwh,if_pos (.inl rfl)] at e0
   have e0:=hnone e0
   simp -dsimp [go_sem]
   exact ⟨.inl ⟨e0,rfl⟩,kw10⟩
  | true =>
   rw [hwh] at e0
   have hw1:IntKind.i64.wrap (l8 + 1) = l8 + 1:=w64 (by omega) (by omega)
   by_cases h3:0 < i ∧ (n:Int) ≠ l8 + 1
   ·rw [if_pos (.inr (.inr (.inr ⟨by omega,by omega⟩)))] at e0
    have e0:=hnone e0
    have h3':((n:Int) != l8 + 1) = true:=by simpa using h3.2
    simp -dsimp [go_sem,f9,f8,h3.1,hw1,h3']
    exact ⟨.inl ⟨e0,rfl⟩,kw10⟩
   by_cases hi0:0 < i
   ·have h3b:((n:Int) != l8 + 1) = false:=by simp; omega
    have hs7:w7.heap.size ≤ w10.heap.size:=by have:=hk9.size; have:=hk10.size; omega
    have hs8:r < w10.heap.size:=by have:=hk9.size; have:=hk10.size; omega
    have gG':Gr G G1 w1 w10:=Gr.wide gG (Nat.le_refl _) hs7
    have gV':Gr V (fun k => V1 k ∨ k = r) w1 w10:=fun k hk => hk.elim (fun h => (gV k h).imp id fun e => ⟨e.1,by omega⟩) fun e => .inr ⟨by omega,by omega⟩
    by_cases hs1:n < 1
    ·rw [if_pos (.inr (.inl hs1))] at e0
     have e0:=hnone e0
     have hs1':(n:Int) < 1:=by omega
     simp -dsimp [go_sem,f9,f8,hw1,hi0,h3b,hs1,hs1']
     exact ⟨.inl ⟨e0,rfl⟩,kw10⟩
    have hs1':¬ (n:Int) < 1:=by omega
    by_cases hs2:1099511627776 < n
    ·rw [if_pos (.inr (.inr (.inl hs2)))] at e0
     have e0:=hnone e0
     have hs2':(1099511627776:Int) < (n:Int):=by omega
     simp -dsimp [go_sem,f9,f8,hw1,hi0,h3b,hs1,hs1',hs2,hs2']
     exact ⟨.inl ⟨e0,rfl⟩,kw10⟩
    have hs2':¬ (1099511627776:Int) < (n:Int):=by omega
    rw [if_neg (by simp; omega)] at e0
    have hl2c:w10.cell? ⟨l,2,none⟩ = some (i64 L.base):=hL10.c2
    by_cases h5:n ≤ L.base
    ·rw [if_pos h5] at e0
     have e0:=hsome _ e0
     have h5':(n:Int) ≤ (L.base:Int):=by omega
     simp -dsimp [go_sem,f9,f8,hw1,hi0,h3b,hs1,hs1',hs2,hs2',hl2c,h5,h5',hi1]
     exact ⟨⟨i1,n,n,es,G1,fun k => V1 k ∨ k = r,rfl,rfl,by omega,e0,hL10,gG',gV',fun k hk => .inl (hVV k hk),k10,.inr ⟨by omega,rfl,by omega⟩,by omega,ok7⟩,by simp [intOf]; omega⟩
    have h5':¬ (n:Int) ≤ (L.base:Int):=by omega
    rw [if_neg h5] at e0
    simp -dsimp [go_sem,f9,f8,hw1,hi0,h3b,hs1,hs1',hs2,hs2',hl2c,h5,h5']
    refine call (rlast_spec l g p { L with ents:=es } G1 _ w10 hL10 ok7) ?_
    rintro v w12 ⟨rfl,hk12⟩
    have hll:=ok7.last
    have hlast:Led.last { L with ents:=es } = L.base + es.length:=rfl
    rw [hlast]
    simp only at hll
    have hw2:IntKind.i64.wrap (((L.base + es.length:Nat):Int) + 1) = ((L.base + es.length + 1:Nat):Int):=by rw [w64 (by omega) (by omega)]; omega
    obtain ⟨m0,hm0⟩:∃ m0,m0 = L.base + es.length:=⟨_,rfl⟩
    rw [← hm0] at hw2 ⊢
    obtain ⟨m,hm⟩:∃ m,m = m0 + 1:=⟨_,rfl⟩
    rw [← hm] at hw2
    by_cases h6:n = m
    ·subst h6
     have h6b:((n:Int) != (n:Int)) = false:=by simp
     rw [if_neg (by omega)] at e0
     have hL12:=hL10.nw hk12
     have k12:=k10.nw hk12
     obtain ⟨B,d,A,c,vs',hb12,hr12,ho12,hd12,hA12,hv12,hAl,g1,g2,g3⟩:=id hL12
     simp only at hb12 hr12 ho12 hd12 hA12 hv12
     have l4:w12.cell? ⟨l,4,none⟩ = some (.slice A es.length c):=hb12.cell 4
     have hlA:¬ blk A l:=fun e => by obtain ⟨a,ha,e2⟩:=blk_of e; exact hAl a ha e2
     have hZV:∀ k,blk Z k → w9.heap.size ≤ k:=fun k hk => by
      obtain ⟨a,ha,rfl⟩:=blk_of hk
      exact hZ a ha
     have hZ12:Rd w12 Z (ent.map u8):=(hoZ.nw hk12).rd
     have kb:Nw w12 (w12.alloc (.cells #[.slice Z ent.length z] 23)):=(Kp.refl _ _).alloc _
     simp -dsimp [go_sem,hw2,h6b,l4]
     refine app Tryz.Srows (hA12.nw kb) (ys:=[.slice Z ent.length z]) (Rd.fresh (w:=w12) rfl rfl) (m:=1) rfl (by simp [Value.oneCell']) (by omega) (by omega) ?_
     intro A13 c13 w13 ho13 hk13 hAA13
     have hk123:Kp (blk A) w12 w13:=(Nw.kp kb _).trans hk13 fun _ _ h => h
     have hA13:∀ k,blk A13 k → blk A k ∨ w12.heap.size ≤ k:=fun k hk => by
      rcases hAA13 with rfl | ⟨rfl,_⟩
      ·exact .inl hk
      ·right
       rw [show k = _ from hk]
       exact kb.size
     obtain ⟨lg14,gG14,gV14,kG14⟩:=rl_push (L:={ L with ents:=es }) (e:=ent) hb12 hr12 ho12 hd12 hA12 hv12 hAl g1 g2 g3 ho13 rfl hk123 hA13 hZ12 (fun a ha _ hv => by have:=hZV a.block (by rw [ha]; rfl); have:=hV9 _ hv; omega) hoZ.2.1
     obtain ⟨hq1,hq2,hq3,hq4⟩:=htp e0 ok7.last
     have e0:=hsome _ e0
     simp only at hq3 hq4 lg14
     have hs12:w10.heap.size ≤ w12.heap.size:=hk12.size
     have ok14:Led.Ok { L with ents:=es ++ [ent] }:=⟨hq3,ok.data,fun e he => (hq4 e he).elim (fun h => ok7.ents e h) fun h => by omega⟩
     have gG12:Gr G G1 w1 w12:=Gr.wide gG' (Nat.le_refl _) hs12
     have gV12:Gr V (fun k => V1 k ∨ k = r) w1 w12:=Gr.wide gV' (Nat.le_refl _) hs12
     have gGf:=Gr.trans gG12 gG14 k12.size kG14.size
     have gVf:=Gr.trans gV12 gV14 k12.size kG14.size
     have kf:Kp G w1 _:=k12.trans kG14 fun k hk h => (gG12 k h).elim id fun e => by omega
     obtain ⟨n13,hn13⟩:∃ n13,n13 = es.length + 1:=⟨_,rfl⟩
     rw [← hn13] at lg14 gGf gVf kf ⊢
     have l413:=hk123.cell_some l4 hlA
     have lf13:=(hb12.kp hk123 hlA).frozen 4
     simp -dsimp [go_sem,l413,lf13,f9,hi1]
     exact ⟨⟨i1,n,n,es ++ [ent],_,_,rfl,rfl,by omega,e0,lg14,gGf,gVf,fun k hk => .inl (.inl (hVV k hk)),kf,.inr ⟨by omega,rfl,by omega⟩,by omega,ok14⟩,by simp [intOf]; omega⟩
    ·have h6b:((n:Int) != (m:Int)) = true:=by simp; omega
     rw [if_pos (by omega)] at e0
     have e0:=hnone e0
     simp -dsimp [go_sem,hw2,h6b]
     exact ⟨.inl ⟨e0,rfl⟩,kw10.nw hk12⟩
   ·have hs7:w7.heap.size ≤ w10.heap.size:=by have:=hk9.size; have:=hk10.size; omega
    have hs8:r < w10.heap.size:=by have:=hk9.size; have:=hk10.size; omega
    have gG':Gr G G1 w1 w10:=Gr.wide gG (Nat.le_refl _) hs7
    have gV':Gr V (fun k => V1 k ∨ k = r) w1 w10:=fun k hk => hk.elim (fun h => (gV k h).imp id fun e => ⟨e.1,by omega⟩) fun e => .inr ⟨by omega,by omega⟩
    by_cases hs1:n < 1
    ·rw [if_pos (.inr (.inl hs1))] at e0
     have e0:=hnone e0
     have hs1':(n:Int) < 1:=by omega
     simp -dsimp [go_sem,f9,f8,hw1,hi0,hs1,hs1']
     exact ⟨.inl ⟨e0,rfl⟩,kw10⟩
    have hs1':¬ (n:Int) < 1:=by omega
    by_cases hs2:1099511627776 < n
    ·rw [if_pos (.inr (.inr (.inl hs2)))] at e0
     have e0:=hnone e0
     have hs2':(1099511627776:Int) < (n:Int):=by omega
     simp -dsimp [go_sem,f9,f8,hw1,hi0,hs1,hs1',hs2,hs2']
     exact ⟨.inl ⟨e0,rfl⟩,kw10⟩
    have hs2':¬ (1099511627776:Int) < (n:Int):=by omega
    rw [if_neg (by simp; omega)] at e0
    have hl2c:w10.cell? ⟨l,2,none⟩ = some (i64 L.base):=hL10.c2
    by_cases h5:n ≤ L.base
    ·rw [if_pos h5] at e0
     have e0:=hsome _ e0
     have h5':(n:Int) ≤ (L.base:Int):=by omega
     simp -dsimp [go_sem,f9,f8,hw1,hi0,hs1,hs1',hs2,hs2',hl2c,h5,h5',hi1]
     exact ⟨⟨i1,n,n,es,G1,fun k => V1 k ∨ k = r,rfl,rfl,by omega,e0,hL10,gG',gV',fun k hk => .inl (hVV k hk),k10,.inr ⟨by omega,rfl,by omega⟩,by omega,ok7⟩,by simp [intOf]; omega⟩
    have h5':¬ (n:Int) ≤ (L.base:Int):=by omega
    rw [if_neg h5] at e0
    simp -dsimp [go_sem,f9,f8,hw1,hi0,hs1,hs1',hs2,hs2',hl2c,h5,h5']
    refine call (rlast_spec l g p { L with ents:=es } G1 _ w10 hL10 ok7) ?_
    rintro v w12 ⟨rfl,hk12⟩
    have hll:=ok7.last
    have hlast:Led.last { L with ents:=es } = L.base + es.length:=rfl
    rw [hlast]
    simp only at hll
    have hw2:IntKind.i64.wrap (((L.base + es.length:Nat):Int) + 1) = ((L.base + es.length + 1:Nat):Int):=by rw [w64 (by omega) (by omega)]; omega
    obtain ⟨m0,hm0⟩:∃ m0,m0 = L.base + es.length:=⟨_,rfl⟩
    rw [← hm0] at hw2 ⊢
    obtain ⟨m,hm⟩:∃ m,m = m0 + 1:=⟨_,rfl⟩
    rw [← hm] at hw2
    by_cases h6:n = m
    ·subst h6
     have h6b:((n:Int) != (n:Int)) = false:=by simp
     rw [if_neg (by omega)] at e0
     have hL12:=hL10.nw hk12
     have k12:=k10.nw hk12
     obtain ⟨B,d,A,c,vs',hb12,hr12,ho12,hd12,hA12,hv12,hAl,g1,g2,g3⟩:=id hL12
     simp only at hb12 hr12 ho12 hd12 hA12 hv12
     have l4:w12.cell? ⟨l,4,none⟩ = some (.slice A es.length c):=hb12.cell 4
     have hlA:¬ blk A l:=fun e => by obtain ⟨a,ha,e2⟩:=blk_of e; exact hAl a ha e2
     have hZV:∀ k,blk Z k → w9.heap.size ≤ k:=fun k hk => by
      obtain ⟨a,ha,rfl⟩:=blk_of hk
      exact hZ a ha
     have hZ12:Rd w12 Z (ent.map u8):=(hoZ.nw hk12).rd
     have kb:Nw w12 (w12.alloc (.cells #[.slice Z ent.length z] 23)):=(Kp.refl _ _).alloc _
     simp -dsimp [go_sem,hw2,h6b,l4]
     refine app Tryz.Srows (hA12.nw kb) (ys:=[.slice Z ent.length z]) (Rd.fresh (w:=w12) rfl rfl) (m:=1) rfl (by simp [Value.oneCell']) (by omega) (by omega) ?_
     intro A13 c13 w13 ho13 hk13 hAA13
     have hk123:Kp (blk A) w12 w13:=(Nw.kp kb _).trans hk13 fun _ _ h => h
     have hA13:∀ k,blk A13 k → blk A k ∨ w12.heap.size ≤ k:=fun k hk => by
      rcases hAA13 with rfl | ⟨rfl,_⟩
      ·exact .inl hk
      ·right
       rw [show k = _ from hk]
       exact kb.size
     obtain ⟨lg14,gG14,gV14,kG14⟩:=rl_push (L:={ L with ents:=es }) (e:=ent) hb12 hr12 ho12 hd12 hA12 hv12 hAl g1 g2 g3 ho13 rfl hk123 hA13 hZ12 (fun a ha _ hv => by have:=hZV a.block (by rw [ha]; rfl); have:=hV9 _ hv; omega) hoZ.2.1
     obtain ⟨hq1,hq2,hq3,hq4⟩:=htp e0 ok7.last
     have e0:=hsome _ e0
     simp only at hq3 hq4 lg14
     have hs12:w10.heap.size ≤ w12.heap.size:=hk12.size
     have ok14:Led.Ok { L with ents:=es ++ [ent] }:=⟨hq3,ok.data,fun e he => (hq4 e he).elim (fun h => ok7.ents e h) fun h => by omega⟩
     have gG12:Gr G G1 w1 w12:=Gr.wide gG' (Nat.le_refl _) hs12
     have gV12:Gr V (fun k => V1 k ∨ k = r) w1 w12:=Gr.wide gV' (Nat.le_refl _) hs12
     have gGf:=Gr.trans gG12 gG14 k12.size kG14.size
     have gVf:=Gr.trans gV12 gV14 k12.size kG14.size
     have kf:Kp G w1 _:=k12.trans kG14 fun k hk h => (gG12 k h).elim id fun e => by omega
     obtain ⟨n13,hn13⟩:∃ n13,n13 = es.length + 1:=⟨_,rfl⟩
     rw [← hn13] at lg14 gGf gVf kf ⊢
     have l413:=hk123.cell_some l4 hlA
     have lf13:=(hb12.kp hk123 hlA).frozen 4
     simp -dsimp [go_sem,l413,lf13,f9,hi1]
     exact ⟨⟨i1,n,n,es ++ [ent],_,_,rfl,rfl,by omega,e0,lg14,gGf,gVf,fun k hk => .inl (.inl (hVV k hk)),kf,.inr ⟨by omega,rfl,by omega⟩,by omega,ok14⟩,by simp [intOf]; omega⟩
    ·have h6b:((n:Int) != (m:Int)) = true:=by simp; omega
     rw [if_pos (by omega)] at e0
     have e0:=hnone e0
     simp -dsimp [go_sem,hw2,h6b]
     exact ⟨.inl ⟨e0,rfl⟩,kw10.nw hk12⟩
 ·obtain rfl:i = rows.length:=by omega
  rw [List.drop_length] at htk
  have htk:takesP L.base (-1) [] rows = some (last,es):=htk
  simp -dsimp [go_sem,f9]
  exact ⟨.inr ⟨_,htk,rfl,ok7,G1,V1,lg7,Gr.wide gG hk1.size (Nat.le_refl _),Gr.wide gV hk1.size (Nat.le_refl _),hVV⟩,kw7⟩
end Go.Proofs.YtellahclbhfdiaaGreatDoor
