/-
  A ledger: takes walked. By the session itself. A ledger: log walked. By the session itself.
-/
import Derived.Test.YtellahclbhfdiaaGreatDoorZ19
import Derived.Test.YtellahclbhfdiaaGreatDoorZ05
namespace Go.Proofs.YtellahclbhfdiaaGreatDoor
set_option linter.unusedSimpArgs false
set_option linter.unusedVariables false
set_option maxRecDepth 100000
set_option maxHeartbeats 1000000
open Go.Vc Go.RowKit
/-- An entry more. -/
theorem lg_push {w w2:World} {l g:Nat} {p:Nm} {L:Led} {G V:Nat → Prop} {B A A2 X:Option Addr} {d c c2 n2 x:Nat} {vs:List Value} {e:List UInt8}
  (hb:Blk w l 170 #[.pointer (some ⟨g,0,none⟩),str p,i64 L.base,.slice B L.data.length d,.slice A L.ents.length c,.bool L.dead]) (hr:Rd w B (L.data.map u8)) (ho:Ofl B (L.data.map u8) V) (hd:L.data.length ≤ d) (hA:Ow w 23 1 A L.ents.length c vs) (hv:RV w vs L.ents V)
  (hAl:Off A (At l)) (h1:∀ k,k = l ∨ blk A k → G k) (h2:∀ k,G k → V k) (h3:∀ k,V k → k < w.heap.size)
  (hA2:Ow w2 23 1 A2 n2 c2 (vs ++ [.slice X e.length x])) (hn2:n2 = L.ents.length + 1) (hK:Kp (blk A) w w2) (hAA:∀ k,blk A2 k → blk A k ∨ w.heap.size ≤ k) (hrX:Rd w X (e.map u8)) (hoX:Ofl X (e.map u8) V) (hdX:e.length ≤ x) :
  Lg (w2.setCell ⟨l,4,none⟩ (.slice A2 n2 c2)) l g p { L with ents:=L.ents ++ [e] } (fun k => G k ∨ blk A2 k) (fun k => V k ∨ blk A2 k) ∧ Gr G (fun k => G k ∨ blk A2 k) w (w2.setCell ⟨l,4,none⟩ (.slice A2 n2 c2)) ∧ Gr V (fun k => V k ∨ blk A2 k) w (w2.setCell ⟨l,4,none⟩ (.slice A2 n2 c2)) ∧ Kp G w (w2.setCell ⟨l,4,none⟩ (.slice A2 n2 c2)):=by
 subst hn2
 have hGl:G l:=h1 _ (.inl rfl)
 have ks:Kp (At l) w2 (w2.setCell ⟨l,4,none⟩ (.slice A2 (L.ents.length + 1) c2)):=(Kp.refl _ _).setCell_at _ _
 have kG:Kp G w (w2.setCell ⟨l,4,none⟩ (.slice A2 (L.ents.length + 1) c2)):=(hK.mono fun i _ hi => h1 i (.inr hi)).trans ks fun i _ (e:i = l) => e ▸ hGl
 have hA2l:∀ k,blk A2 k → k < (w2.setCell ⟨l,4,none⟩ (.slice A2 (L.ents.length + 1) c2)).heap.size:=fun k hk => by
  obtain ⟨a,ha,rfl⟩:=blk_of hk
  exact Nat.lt_of_lt_of_le (hA2.lt a ha) ks.size
 have hlw:=h3 l (h2 l hGl)
 have hA2n:Off A2 (At l):=Off.of_blk fun k hk (e:k = l) => by
  rcases hAA k hk with h | h
  ·obtain ⟨a,ha,e2⟩:=blk_of h
   exact hAl a ha (by show a.block = l; omega)
  ·omega
 have gG:Gr G (fun k => G k ∨ blk A2 k) w (w2.setCell ⟨l,4,none⟩ (.slice A2 (L.ents.length + 1) c2)):=fun k hk => by
  rcases hk with h | h
  ·exact .inl h
  ·exact (hAA k h).imp (fun e => h1 k (.inr e)) fun e => ⟨e,hA2l k h⟩
 have gV:Gr V (fun k => V k ∨ blk A2 k) w (w2.setCell ⟨l,4,none⟩ (.slice A2 (L.ents.length + 1) c2)):=fun k hk => by
  rcases hk with h | h
  ·exact .inl h
  ·exact (hAA k h).imp (fun e => h2 k (h1 k (.inr e))) fun e => ⟨e,hA2l k h⟩
 have kV:Kp V w (w2.setCell ⟨l,4,none⟩ (.slice A2 (L.ents.length + 1) c2)):=kG.mono fun i _ hi => h2 i hi
 refine ⟨⟨B,d,A2,c2,_,?_,hr.kp kV ho,ho.gr hr gV,hd,?_,(hv.append (RV.one hrX hoX hdX)).gr kV gV,hA2n,fun k hk => ?_,fun k hk => hk.imp (h2 k) id,fun k hk => ?_⟩,gG,gV,kG⟩
 ·have:=(hb.kp hK fun e => by obtain ⟨a,ha,e2⟩:=blk_of e; exact hAl a ha e2).set 4 (.slice A2 (L.ents.length + 1) c2)
  simpa using this
 ·have:=hA2.kp ks hA2n
  simpa using this
 ·rcases hk with rfl | hk
  ·exact .inl hGl
  ·exact .inr hk
 ·rcases gV k hk with h | h
  ·exact Nat.lt_of_lt_of_le (h3 k h) kV.size
  ·exact h.2
theorem numL_le (l:List UInt8) (bad:Bool):(numL l bad).1 ≤ 4611686018427387904:=by
 unfold numL
 split
 ·rename_i u r h; exact (takeN_len l _ _ _ _ h).2
 ·simp
theorem bytL_len (l:List UInt8) (bad:Bool):(bytL l bad).1.length ≤ l.length:=by
 have:=numL_len l bad
 unfold bytL rawL
 split
 ·simp only [List.length_take]; omega
 ·simp
/-- What taking a record comes to in memory. -/
def TakeR (w w':World) (l g t:Nat) (p:Nm) (L:Led) (G V:Nat → Prop) (q:Int × List (List UInt8)):Prop :=
 ∃ G' V',Lg w' l g p { L with ents:=q.2 } G' V' ∧ Blk w' t 233 #[.pointer (some ⟨l,0,none⟩),i64 q.1] ∧ Gr G G' w w' ∧ Gr V V' w w' ∧ ∀ i,V i → V' i
def TakeO (w w':World) (l g t:Nat) (p:Nm) (L:Led) (G V:Nat → Prop) (o:Option (Int × List (List UInt8))):Prop:=∀ q,o = some q → TakeR w w' l g t p L G V q
theorem TakeO.none {w w':World} {l g t:Nat} {p:Nm} {L:Led} {G V:Nat → Prop}:TakeO w w' l g t p L G V none:=fun q h => by cases h
theorem TakeO.some {w w':World} {l g t:Nat} {p:Nm} {L:Led} {G V:Nat → Prop} {q:Int × List (List UInt8)} (h:TakeR w w' l g t p L G V q):TakeO w w' l g t p L G V (some q):=fun r e => by cases e; exact h
theorem takes_spec (t l g:Nat) (p:Nm) (L:Led) (G V:Nat → Prop) (last:Int) (b:List UInt8) (X:Option Addr) (x:Nat) (w:World) (h:Lg w l g p L G V) (ok:L.Ok) (hT:Blk w t 233 #[.pointer (some ⟨l,0,none⟩),i64 last]) (htV:V t) (htG:¬ G t)
  (hr:Rd w X (b.map u8)) (hb:b.length ≤ 1073741824) (hl1:-1 ≤ last) (hl2:last ≤ 1099511627776) :
  Cal Tryz.prog 169 #[.pointer (some ⟨t,0,none⟩),.slice X b.length x] w fun v w' => v = .bool (takeP L.base last L.ents b).isSome ∧ Kp (fun k => G k ∨ k = t) w w' ∧ TakeO w w' l g t p L G V (takeP L.base last L.ents b):=by
 have e0:takeP L.base last L.ents b = if (numRow b).1 = false ∨ (numRow b).2.1 < 1 ∨ 1099511627776 < (numRow b).2.1 ∨ (0 ≤ last ∧ ((numRow b).2.1:Int) ≠ last + 1) then none
  else if (numRow b).2.1 ≤ L.base then some (((numRow b).2.1:Int),L.ents) else if (numRow b).2.1 ≠ L.base + L.ents.length + 1 then none else some (((numRow b).2.1:Int),L.ents ++ [(numRow b).2.2]):=rfl
 have en:numRow b = (!(bytL (numL b false).2.1 (numL b false).2.2).2.2 && (bytL (numL b false).2.1 (numL b false).2.2).2.1.isEmpty,(numL b false).1,(bytL (numL b false).2.1 (numL b false).2.2).1):=rfl
 rw [en] at e0
 simp only at e0
 have hnle:=numL_le b false
 have hnl:=numL_len b false
 have hbl:=bytL_len (numL b false).2.1 (numL b false).2.2
 refine enter Tryz.mixed Tryz.func169 rfl (by kernel_rfl) ?_
 simp -dsimp [go_sem]
 refine call (newReader_spec X x b w hr (by omega)) ?_
 rintro v w1 ⟨r,rfl,hrr,⟨FR,hRd,hFR⟩,hk1⟩
 simp -dsimp [go_sem]
 refine call (num_spec r b false FR w1 hRd (by omega)) ?_
 rintro v w2 ⟨rfl,hRd2,hk2⟩
 simp -dsimp [go_sem]
 refine call (rBytes_spec r _ _ FR w2 hRd2 (by omega)) ?_
 rintro v w3 ⟨hB3,hRd3,hk3⟩
 have n2:Nw w w2:=hk1.at_ hk2 fun k (e:k = r) => by omega
 have n3:Nw w w3:=n2.at_ hk3 fun k (e:k = r) => by omega
 obtain ⟨Y,y,rfl,hoY,hY⟩:=id hB3
 generalize (bytL (numL b false).2.1 (numL b false).2.2).2.2 = bad at *
 generalize (bytL (numL b false).2.1 (numL b false).2.2).2.1 = rest at *
 generalize (bytL (numL b false).2.1 (numL b false).2.2).1 = ent at *
 generalize (numL b false).1 = n at *
 have hT3:=hT.nw n3
 have t0:w3.cell? ⟨t,0,none⟩ = some (.pointer (some ⟨l,0,none⟩)):=hT3.cell 0
 have t1:w3.cell? ⟨t,1,none⟩ = some (i64 last):=hT3.cell 1
 have tf:=hT3.frozen 1
 have kn3:=Nw.kp n3 (fun k => G k ∨ k = t)
 have lg3:=h.nw n3
 have l2:=lg3.c2
 simp -dsimp [go_sem]
 refine call (whole_spec r rest bad FR w3 hRd3) ?_
 rintro u w4 ⟨rfl,rfl⟩
 cases hwh:(!bad && rest.isEmpty) with
 | false =>
  rw [hwh,if_pos (.inl rfl)] at e0
  rw [e0]
  simp -dsimp [go_sem]
  exact ⟨kn3,TakeO.none⟩
 | true =>
  rw [hwh] at e0
  by_cases h1:n < 1
  ·rw [if_pos (.inr (.inl h1))] at e0
   have h1':(n:Int) < 1:=by omega
   rw [e0]
   simp -dsimp [go_sem,h1,h1']
   exact ⟨kn3,TakeO.none⟩
  have h1':¬ (n:Int) < 1:=by omega
  by_cases h2:1099511627776 < n
  ·rw [if_pos (.inr (.inr (.inl h2)))] at e0
   have h2':(1099511627776:Int) < (n:Int):=by omega
   rw [e0]
   simp -dsimp [go_sem,h1,h1',h2,h2']
   exact ⟨kn3,TakeO.none⟩
  have h2':¬ (1099511627776:Int) < (n:Int):=by omega
  have hw1:IntKind.i64.wrap (last + 1) = last + 1:=w64 (by omega) (by omega)
  by_cases h3:0 ≤ last ∧ (n:Int) ≠ last + 1
  ·rw [if_pos (.inr (.inr (.inr h3)))] at e0
   have h3':((n:Int) != last + 1) = true:=by simpa using h3.2
   rw [e0]
   simp -dsimp [go_sem,h1,h1',h2,h2',t1,h3.1,hw1,h3']
   exact ⟨kn3,TakeO.none⟩
  rw [if_neg (by simp; omega)] at e0
  by_cases h4:0 ≤ last
  ·have h4':((n:Int) != last + 1) = false:=by simp; omega
   simp -dsimp [go_sem,h1,h1',h2,h2',t0,t1,tf,h4,hw1,h4']
   have ks:Kp (At t) w3 (w3.setCell ⟨t,1,none⟩ (i64 n)):=(Kp.refl _ _).setCell_at _ _
   have hT5:Blk (w3.setCell ⟨t,1,none⟩ (i64 n)) t 233 #[.pointer (some ⟨l,0,none⟩),i64 n]:=by simpa using hT3.set 1 (i64 n)
   have lg5:=lg3.kp ks fun i (e:i = t) => e ▸ ⟨htV,htG⟩
   have kn5:Kp (fun k => G k ∨ k = t) w (w3.setCell ⟨t,1,none⟩ (i64 n)):=kn3.trans ks fun k _ (e:k = t) => .inr e
   simp -dsimp [go_sem,l2]
   by_cases h5:n ≤ L.base
   ·rw [if_pos h5] at e0
    have h5':(n:Int) ≤ (L.base:Int):=by omega
    rw [e0]
    simp -dsimp [go_sem,h5,h5']
    exact ⟨kn5,TakeO.some ⟨G,V,lg5,hT5,fun k hk => .inl hk,fun k hk => .inl hk,fun k hk => hk⟩⟩
   have h5':¬ (n:Int) ≤ (L.base:Int):=by omega
   rw [if_neg h5] at e0
   simp -dsimp [go_sem,h5,h5',t0]
   generalize w3.setCell ⟨t,1,none⟩ (i64 n) = w5 at *
   refine call (last_spec l g p L G V w5 lg5 ok) ?_
   rintro v w6 ⟨rfl,hk6⟩
   have hll:=ok.last
   have hlast:L.last = L.base + L.ents.length:=rfl
   have hw2:IntKind.i64.wrap ((L.last:Int) + 1) = ((L.last + 1:Nat):Int):=by rw [w64 (by omega) (by omega)]; omega
   obtain ⟨m,hm⟩:∃ m,m = L.last + 1:=⟨_,rfl⟩
   rw [← hm] at hw2
   by_cases h6:n = m
   ·subst h6
    have h6b:((n:Int) != (n:Int)) = false:=by simp
    rw [if_neg (by omega)] at e0
    have lg6:=lg5.nw hk6
    have hT6:=hT5.nw hk6
    have kn6:Kp (fun k => G k ∨ k = t) w w6:=kn5.nw hk6
    have s0:w6.cell? ⟨t,0,none⟩ = some (.pointer (some ⟨l,0,none⟩)):=hT6.cell 0
    obtain ⟨B,d,A,c,vs,hb6,hr6,ho6,hd6,hA6,hv6,hAl,g1,g2,g3⟩:=id lg6
    have l4:w6.cell? ⟨l,4,none⟩ = some (.slice A L.ents.length c):=hb6.cell 4
    have kd:Kp (blk A) w6 w6.drew:=(Kp.refl _ _).drew
    have htA:¬ blk A t:=fun e => htG (g1 t (.inr e))
    have hlA:¬ blk A l:=fun e => by obtain ⟨a,ha,e2⟩:=blk_of e; exact hAl a ha e2
    have s0d:=kd.cell_some s0 htA
    have l4d:=kd.cell_some l4 hlA
    have hGl:G l:=g1 l (.inl rfl)
    have hYV:∀ k,blk Y k → w2.heap.size ≤ k:=fun k hk => by
     obtain ⟨a,ha,rfl⟩:=blk_of hk
     exact hY a ha
    have hVw:∀ k,V k → k < w2.heap.size:=fun k hk => by have:=h.lt k hk; have:=n2.size; omega
    have hY6:Rd w6 Y (ent.map u8):=((hoY.kp ks (Off.of_blk fun k hk (e:k = t) => by have:=hYV k hk; have:=hVw t htV; omega)).nw hk6).rd
    simp -dsimp [go_sem,hw2,h6b]
    refine drawD (.take 0 (.take 1 (.take 2 (.take 3 (.take 4 (.take 5 (.take 6 (.take 7 (.take 8 (.take 9 (.take 10 (.take 11 (.alt 12 (.alt 13 (.alt 14 (.alt 15 (.alt 16 .done .stop) .stop) .stop) .stop) .stop))))))))))))) 16 (by kernel_rfl) (fun wz => Kp (blk A) w6 wz) kd ?_
    simp -dsimp [go_sem,s0d,l4d]
    have kb:Nw w6 (w6.alloc (.cells #[.slice Y ent.length y] 23)).drew:=((Kp.refl _ _).alloc _).drew
    refine ⟨fun wz hz => by simp [hz.cell_some s0 htA],fun wz hz => by simp [hz.cell_some l4 hlA],Nw.kp kb _,?_⟩
    refine app Tryz.Srows (hA6.nw kb) (ys:=[.slice Y ent.length y]) ((Rd.fresh (w:=w6) rfl rfl).nw ((Kp.refl _ _).drew)) (m:=1) rfl (by simp [Value.oneCell']) (by omega) (by omega) ?_
    intro A7 c7 w7 ho7 hk7 hAA7
    have hk67:Kp (blk A) w6 w7:=(Nw.kp kb _).trans hk7 fun _ _ h => h
    refine ⟨.inr hk67,?_⟩
    have hA7:∀ k,blk A7 k → blk A k ∨ w6.heap.size ≤ k:=fun k hk => by
     rcases hAA7 with rfl | ⟨rfl,_⟩
     ·exact .inl hk
     ·right
      rw [show k = _ from hk]
      exact kb.size
    obtain ⟨lg8,gG,gV,kG⟩:=lg_push (e:=ent) hb6 hr6 ho6 hd6 hA6 hv6 hAl g1 g2 g3 ho7 rfl hk67 hA7 hY6 (fun a ha _ hv => by have:=hYV a.block (by rw [ha]; rfl); have:=hVw _ hv; omega) hoY.2.1
    obtain ⟨n7,hn7⟩:∃ n7,n7 = L.ents.length + 1:=⟨_,rfl⟩
    rw [← hn7] at lg8 gG gV kG ⊢
    have l47:=hk67.cell_some l4 hlA
    have lf7:=(hb6.kp hk67 hlA).frozen 4
    simp -dsimp [go_sem,l47,lf7]
    rw [e0]
    have hT8:=hT6.kp kG htG
    have hsz:w.heap.size ≤ w6.heap.size:=kn6.size
    refine ⟨hk67,by simp,kn6.trans kG fun k _ h => .inl h,TakeO.some ?_⟩
    exact ⟨_,_,lg8,hT8,Gr.wide gG hsz (Nat.le_refl _),Gr.wide gV hsz (Nat.le_refl _),fun k hk => .inl hk⟩
   ·have h6b:((n:Int) != (m:Int)) = true:=by simp; omega
    rw [if_pos (by omega)] at e0
    rw [e0]
    simp -dsimp [go_sem,hw2,h6b]
    exact ⟨kn5.nw hk6,TakeO.none⟩
  ·simp -dsimp [go_sem,h1,h1',h2,h2',t0,t1,tf,h4]
   have ks:Kp (At t) w3 (w3.setCell ⟨t,1,none⟩ (i64 n)):=(Kp.refl _ _).setCell_at _ _
   have hT5:Blk (w3.setCell ⟨t,1,none⟩ (i64 n)) t 233 #[.pointer (some ⟨l,0,none⟩),i64 n]:=by simpa using hT3.set 1 (i64 n)
   have lg5:=lg3.kp ks fun i (e:i = t) => e ▸ ⟨htV,htG⟩
   have kn5:Kp (fun k => G k ∨ k = t) w (w3.setCell ⟨t,1,none⟩ (i64 n)):=kn3.trans ks fun k _ (e:k = t) => .inr e
   simp -dsimp [go_sem,l2]
   by_cases h5:n ≤ L.base
   ·rw [if_pos h5] at e0
    have h5':(n:Int) ≤ (L.base:Int):=by omega
    rw [e0]
    simp -dsimp [go_sem,h5,h5']
    exact ⟨kn5,TakeO.some ⟨G,V,lg5,hT5,fun k hk => .inl hk,fun k hk => .inl hk,fun k hk => hk⟩⟩
   have h5':¬ (n:Int) ≤ (L.base:Int):=by omega
   rw [if_neg h5] at e0
   simp -dsimp [go_sem,h5,h5',t0]
   generalize w3.setCell ⟨t,1,none⟩ (i64 n) = w5 at *
   refine call (last_spec l g p L G V w5 lg5 ok) ?_
   rintro v w6 ⟨rfl,hk6⟩
   have hll:=ok.last
   have hlast:L.last = L.base + L.ents.length:=rfl
   have hw2:IntKind.i64.wrap ((L.last:Int) + 1) = ((L.last + 1:Nat):Int):=by rw [w64 (by omega) (by omega)]; omega
   obtain ⟨m,hm⟩:∃ m,m = L.last + 1:=⟨_,rfl⟩
   rw [← hm] at hw2
   by_cases h6:n = m
   ·subst h6
    have h6b:((n:Int) != (n:Int)) = false:=by simp
    rw [if_neg (by omega)] at e0
    have lg6:=lg5.nw hk6
    have hT6:=hT5.nw hk6
    have kn6:Kp (fun k => G k ∨ k = t) w w6:=kn5.nw hk6
    have s0:w6.cell? ⟨t,0,none⟩ = some (.pointer (some ⟨l,0,none⟩)):=hT6.cell 0
    obtain ⟨B,d,A,c,vs,hb6,hr6,ho6,hd6,hA6,hv6,hAl,g1,g2,g3⟩:=id lg6
    have l4:w6.cell? ⟨l,4,none⟩ = some (.slice A L.ents.length c):=hb6.cell 4
    have kd:Kp (blk A) w6 w6.drew:=(Kp.refl _ _).drew
    have htA:¬ blk A t:=fun e => htG (g1 t (.inr e))
    have hlA:¬ blk A l:=fun e => by obtain ⟨a,ha,e2⟩:=blk_of e; exact hAl a ha e2
    have s0d:=kd.cell_some s0 htA
    have l4d:=kd.cell_some l4 hlA
    have hGl:G l:=g1 l (.inl rfl)
    have hYV:∀ k,blk Y k → w2.heap.size ≤ k:=fun k hk => by
     obtain ⟨a,ha,rfl⟩:=blk_of hk
     exact hY a ha
    have hVw:∀ k,V k → k < w2.heap.size:=fun k hk => by have:=h.lt k hk; have:=n2.size; omega
    have hY6:Rd w6 Y (ent.map u8):=((hoY.kp ks (Off.of_blk fun k hk (e:k = t) => by have:=hYV k hk; have:=hVw t htV; omega)).nw hk6).rd
    simp -dsimp [go_sem,hw2,h6b]
    refine drawD (.take 0 (.take 1 (.take 2 (.take 3 (.take 4 (.take 5 (.take 6 (.take 7 (.take 8 (.take 9 (.take 10 (.take 11 (.alt 12 (.alt 13 (.alt 14 (.alt 15 (.alt 16 .done .stop) .stop) .stop) .stop) .stop))))))))))))) 16 (by kernel_rfl) (fun wz => Kp (blk A) w6 wz) kd ?_
    simp -dsimp [go_sem,s0d,l4d]
    have kb:Nw w6 (w6.alloc (.cells #[.slice Y ent.length y] 23)).drew:=((Kp.refl _ _).alloc _).drew
    refine ⟨fun wz hz => by simp [hz.cell_some s0 htA],fun wz hz => by simp [hz.cell_some l4 hlA],Nw.kp kb _,?_⟩
    refine app Tryz.Srows (hA6.nw kb) (ys:=[.slice Y ent.length y]) ((Rd.fresh (w:=w6) rfl rfl).nw ((Kp.refl _ _).drew)) (m:=1) rfl (by simp [Value.oneCell']) (by omega) (by omega) ?_
    intro A7 c7 w7 ho7 hk7 hAA7
    have hk67:Kp (blk A) w6 w7:=(Nw.kp kb _).trans hk7 fun _ _ h => h
    refine ⟨.inr hk67,?_⟩
    have hA7:∀ k,blk A7 k → blk A k ∨ w6.heap.size ≤ k:=fun k hk => by
     rcases hAA7 with rfl | ⟨rfl,_⟩
     ·exact .inl hk
     ·right
      rw [show k = _ from hk]
      exact kb.size
    obtain ⟨lg8,gG,gV,kG⟩:=lg_push (e:=ent) hb6 hr6 ho6 hd6 hA6 hv6 hAl g1 g2 g3 ho7 rfl hk67 hA7 hY6 (fun a ha _ hv => by have:=hYV a.block (by rw [ha]; rfl); have:=hVw _ hv; omega) hoY.2.1
    obtain ⟨n7,hn7⟩:∃ n7,n7 = L.ents.length + 1:=⟨_,rfl⟩
    rw [← hn7] at lg8 gG gV kG ⊢
    have l47:=hk67.cell_some l4 hlA
    have lf7:=(hb6.kp hk67 hlA).frozen 4
    simp -dsimp [go_sem,l47,lf7]
    rw [e0]
    have hT8:=hT6.kp kG htG
    have hsz:w.heap.size ≤ w6.heap.size:=kn6.size
    refine ⟨hk67,by simp,kn6.trans kG fun k _ h => .inl h,TakeO.some ?_⟩
    exact ⟨_,_,lg8,hT8,Gr.wide gG hsz (Nat.le_refl _),Gr.wide gV hsz (Nat.le_refl _),fun k hk => .inl hk⟩
   ·have h6b:((n:Int) != (m:Int)) = true:=by simp; omega
    rw [if_pos (by omega)] at e0
    rw [e0]
    simp -dsimp [go_sem,hw2,h6b]
    exact ⟨kn5.nw hk6,TakeO.none⟩
set_option maxHeartbeats 2000000
theorem takeP_some {base:Nat} {last:Int} {es:List (List UInt8)} {b:List UInt8} {q:Int × List (List UInt8)} (h:takeP base last es b = some q) (hb:base + es.length ≤ 1099511627776):1 ≤ q.1 ∧ q.1 ≤ 1099511627776 ∧ base + q.2.length ≤ 1099511627776 ∧ ∀ e ∈ q.2,e ∈ es ∨ e.length ≤ b.length:=by
 have hr:(numRow b).2.2.length ≤ b.length:=by
  have h1:=bytL_len (numL b false).2.1 (numL b false).2.2
  have h2:=numL_len b false
  exact Nat.le_trans h1 h2
 unfold takeP at h
 split at h
 ·cases h
 ·rename_i h1
  have h1a:¬ (numRow b).2.1 < 1:=fun e => h1 (.inr (.inl e))
  have h1b:¬ 1099511627776 < (numRow b).2.1:=fun e => h1 (.inr (.inr (.inl e)))
  split at h
  ·cases h
   exact ⟨by simp only; omega,by simp only; omega,hb,fun e he => .inl he⟩
  ·split at h
   ·cases h
   ·rename_i h3
    cases h
    refine ⟨by simp only; omega,by simp only; omega,by simp only [List.length_append,List.length_singleton]; omega,fun e he => ?_⟩
    rcases List.mem_append.1 he with he | he
    ·exact .inl he
    ·rw [List.mem_singleton.1 he]; exact .inr hr
theorem takesP_cons (base:Nat) (last:Int) (es:List (List UInt8)) (b:List UInt8) (r:List (List UInt8)):takesP base last es (b :: r) = match takeP base last es b with
  | none => none
  | some q => takesP base q.1 q.2 r:=rfl
/-- What opening, or a part of it, comes to in memory: the disk; and, if it did not err, the ledger. -/
def OpR (w w':World) (l g:Nat) (p:Nm) (D:Dsk) (e:Nat) (L:Led) (F V G0:Nat → Prop):Prop:=∃ F' V',Dk w' g D F' ∧ Gr F F' w w' ∧ Gr V V' w w' ∧ (∀ i,V i → V' i) ∧ (∀ i,F' i → V' i) ∧ (e = 0 → ∃ G',LS w' l g p D L F' G' V' ∧ ∀ k,G' k → k < w.heap.size → G0 k)
theorem LS.opr {w w1 w':World} {l g:Nat} {p:Nm} {D D':Dsk} {e:Nat} {L:Led} {F G V F0 V0 F':Nat → Prop} (h:LS w1 l g p D L F G V) (hD:Dk w' g D' F') (hG:Gr F F' w1 w') (hK:Kp F w1 w') (hF0:Gr F0 F w w1) (hV0:Gr V0 V w w1) (hVV:∀ i,V0 i → V i) (hsz:w.heap.size ≤ w1.heap.size) {G0:Nat → Prop} (hGG:∀ k,G k → k < w.heap.size → G0 k):OpR w w' l g p D' e L F0 V0 G0:=by
 obtain ⟨hL,hGV⟩:=h.disk hD hG hK
 exact ⟨F',_,hD,Gr.trans hF0 hG hsz hK.size,Gr.trans hV0 hGV hsz hK.size,fun i hi => .inl (hVV i hi),fun i hi => .inr hi,fun _ => ⟨G,hL,hGG⟩⟩
theorem LS.c0' {w:World} {l g:Nat} {p:Nm} {D:Dsk} {L:Led} {F G V:Nat → Prop} (h:LS w l g p D L F G V):w.cell? ⟨l,0,none⟩ = some (.pointer (some ⟨g,0,none⟩)):=h.lg.c0
theorem LS.c1' {w:World} {l g:Nat} {p:Nm} {D:Dsk} {L:Led} {F G V:Nat → Prop} (h:LS w l g p D L F G V):w.cell? ⟨l,1,none⟩ = some (str p):=h.lg.c1
theorem log_specT (l g:Nat) (p:Nm) (D:Dsk) (L:Led) (F G V:Nat → Prop) (w:World) (h:LS w l g p D L F G V) (hp:p.length ≤ 20) (ok:L.Ok) (he:L.ents = []) :
  Cal Tryz.prog 107 #[.pointer (some ⟨l,0,none⟩)] w fun v w' => v = i64 (logL D p L.base).2.1 ∧ OpR w w' l g p (logL D p L.base).1 (logL D p L.base).2.1 { L with ents:=(logL D p L.base).2.2 } F V G ∧ Kp (fun k => F k ∨ G k) w w':=by
 have hlN:(logN p).length = p.length + 4:=by simp [logN]
 refine enter Tryz.mixed Tryz.func107 rfl (by kernel_rfl) ?_
 simp -dsimp [go_sem]
 have c0:=LS.c0' h
 have kd:Nw w (World.drew w):=(Kp.refl _ _).drew
 have c0d:=kd.cell_some c0 fun h => h
 have c1d:=kd.cell_some (LS.c1' h) fun h => h
 refine draw (.take 0 (.take 1 (.take 2 (.take 3 (.take 4 (.alt 5 (.alt 6 (.take 7 .done) .stop) .stop)))))) (by kernel_rfl) (fun wz => Kp (fun _ => False) w wz) (Nw.kp kd _) ?_
 simp -dsimp [go_sem,c0d]
 refine ⟨fun wz hz => by simp [hz.cell_some c0 fun h => h],?_⟩
 refine call (logname_spec l p w.drew c1d hp) ?_
 rintro v w1 ⟨rfl,rfl⟩
 refine ⟨kd,?_⟩
 simp -dsimp [go_sem]
 refine call (has_spec (logN p) g D F _ (h.dk.nw kd)) ?_
 rintro v w2 ⟨rfl,hk2⟩
 have n2:=kd.nw hk2
 refine ⟨n2,?_⟩
 have h2:=h.nw n2
 have e0:logL D p L.base = match tLook D.fs (logN p) with
  | none => (D,0,[])
  | some x => logOf D (logN p) L.base x.b:=rfl
 cases hx:tLook D.fs (logN p) with
 | none =>
  rw [hx] at e0
  rw [e0]
  simp -dsimp [go_sem]
  refine ⟨⟨F,V,h2.dk,fun i hi => .inl hi,fun i hi => .inl hi,fun i hi => hi,h2.fv,fun _ => ⟨G,?_,fun k hk _ => hk⟩⟩,Nw.kp n2 _⟩
  have:({ L with ents:=[] }:Led) = L:=by rw [← he]
  rw [this]; exact h2
 | some f =>
  rw [hx] at e0
  simp only at e0
  have hrd:dRead D (logN p) = (f.b,0):=by unfold dRead; rw [hx]
  have hfl:f.b.length ≤ 1073741824:=by have:=dRead_len h.dk.ok (logN p); rw [hrd] at this; exact this
  simp -dsimp [go_sem]
  have c02:=h2.c0'
  have kd2:Nw w2 w2.drew:=(Kp.refl _ _).drew
  have c02d:=kd2.cell_some c02 fun h => h
  have c12d:=kd2.cell_some h2.c1' fun h => h
  refine draw (.take 0 (.take 1 (.take 2 (.take 3 (.take 4 (.alt 5 (.alt 6 (.take 7 (.take 8 (.take 9 (.take 10 (.take 11 .done))))) .stop) .stop)))))) (by kernel_rfl) (fun wz => Nw w2 wz) kd2 ?_
  simp -dsimp [go_sem,c02d]
  refine ⟨fun wz hz => by simp [hz.cell_some c02 fun h => h],?_⟩
  refine call (logname_spec l p w2.drew c12d hp) ?_
  rintro v w3 ⟨rfl,rfl⟩
  refine ⟨kd2,?_⟩
  simp -dsimp [go_sem]
  refine call (dread_spec (logN p) g D F _ (h2.dk.nw kd2)) ?_
  rw [hrd]
  rintro v w4 ⟨hk4,u,rfl,hB4⟩
  have n24:=kd2.nw hk4
  refine ⟨n24,?_⟩
  obtain ⟨X,x,rfl,hoX,hX⟩:=id hB4
  simp only at e0 hoX ⊢
  obtain ⟨b,hb⟩:∃ b,b = f.b:=⟨_,rfl⟩
  rw [← hb] at e0 hoX hfl ⊢
  simp -dsimp [go_sem]
  refine call (scan_spec b X x w4 hoX.rd hoX.2.1 (by omega)) ?_
  rintro v w5 ⟨hk5,u,rfl,hRs⟩
  have n5:=n2.nw (n24.nw hk5)
  have hsl:=scanL_len' (b.length + 1) b
  have e1:logOf D (logN p) L.base b = match takesP L.base (-1) [] (scanL (b.length + 1) b).1 with
   | none => (D,3,[])
   | some q => logFin D (logN p) (scanL (b.length + 1) b).2 b.length q.2:=rfl
  rw [e1] at e0
  clear e1
  generalize (scanL (b.length + 1) b).1 = rows at *
  generalize (scanL (b.length + 1) b).2 = good at *
  obtain ⟨A5,c5,rfl,hbr,hc5⟩:=hRs.brs2
  simp -dsimp [go_sem]
  simp [go_sem]
  have kt:Nw w5 (w5.alloc (.cells #[.pointer (some ⟨l,0,none⟩),i64 (-1)] 233)):=(Kp.refl _ _).alloc _
  have hT0:=Blk.new w5 233 #[.pointer (some ⟨l,0,none⟩),i64 (-1)]
  have h5:=h.nw n5
  obtain ⟨t,ht⟩:∃ t,t = w5.heap.size:=⟨_,rfl⟩
  rw [← ht] at hT0 ⊢
  have hGw:∀ k,G k → k < w.heap.size:=fun k hk => h.lg.lt k (h.lg.gv k hk)
  have hw4:w.heap.size ≤ w4.heap.size:=(n2.nw n24).size
  have hw5:w4.heap.size ≤ t:=by rw [ht]; exact hk5.size
  have hbr0:=hbr.nw kt
  have n6:=n5.nw kt
  have hts:=hT0.lt
  have lg6:Lg _ l g p L G (fun k => V k ∨ k = t):=h5.lg.step kt (fun _ h => h.elim) (fun k hk => hk.imp id fun e => by subst e; exact ⟨by omega,hts⟩) fun k hk => .inl hk
  have dk6:=h5.dk.nw kt
  generalize w5.alloc (.cells #[.pointer (some ⟨l,0,none⟩),i64 (-1)] 233) = w6 at *
  have hsN:(logN p).length ≤ 9223372036854775807:=by omega
  refine loop [2,9,44,45,46,47,48,49,50,51,52] (by kernel_rfl)
   (fun f w' => Box1 (fun a w' => ∃ (i:Nat) (last:Int) (es:List (List UInt8)) (G1 V1:Nat → Prop),a = i64 i ∧ i ≤ rows.length ∧ takesP L.base (-1) [] rows = takesP L.base last es (rows.drop i) ∧ Lg w' l g p { L with ents:=es } G1 V1 ∧ Blk w' t 233 #[.pointer (some ⟨l,0,none⟩),i64 last] ∧ V1 t ∧ ¬ G1 t ∧
    Gr G G1 w6 w' ∧ Gr V V1 w w' ∧ (∀ k,V k → V1 k) ∧ Kp (fun k => G k ∨ t ≤ k) w6 w' ∧ -1 ≤ last ∧ last ≤ 1099511627776 ∧ Led.Ok { L with ents:=es }) (f 44) w') (fun f _ => rows.length - (intOf (f 44)).toNat)
   ⟨0,-1,[],G,fun k => V k ∨ k = t,rfl,Nat.zero_le _,rfl,by rw [← he]; exact lg6,hT0,.inr rfl,fun e => by have:=hGw t e; omega,fun k hk => .inl hk,fun k hk => hk.imp id (fun e => ⟨by omega,by omega⟩),fun k hk => .inl hk,Kp.refl _ _,by omega,by omega,by rw [← he]; exact ok⟩ ?_
  rintro f w7 ⟨i,last,es,G1,V1,f44,hi,htk,lg7,hT7,hV1t,hG1t,gG,gV,hVV,hK7,hl1,hl2,ok7⟩
  have hFG:∀ k,F k → ¬ (G k ∨ t ≤ k):=fun k hf hk => by
   rcases hk with hk | hk
   ·exact h.dj k hf hk
   ·have:=h.dk.lt k hf; omega
  have dk7:=dk6.kp hK7 hFG
  have kV:Kp (fun k => F k ∨ G k) w w7:=(Nw.kp n6 _).trans hK7 fun k hk hs => by
   rcases hs with hs | hs
   ·exact .inr hs
   ·omega
  by_cases hlt:i < rows.length
  ·have hi1:IntKind.i64.wrap ((i:Int) + 1) = ((i + 1:Nat):Int):=w64 (by omega) (by omega)
   obtain ⟨i1,hi1'⟩:∃ i1,i1 = i + 1:=⟨_,rfl⟩
   have hbr7:=hbr0.kp (hK7.mono fun k _ hk => by
    rcases hk with hk | hk
    ·exact .inl (by have:=hGw k hk; omega)
    ·exact .inr (by omega))
   obtain ⟨vs,hvl,hrd7,hoA,hi'⟩:=hbr7
   obtain ⟨Y,y,hv,hrY,hoY,hy⟩:=hi' i hlt
   obtain ⟨bb,o,rfl,hcell⟩:=hrd7 i _ hv
   have hrl:=hsl.2 _ (List.getElem_mem hlt)
   rw [List.drop_eq_getElem_cons hlt,takesP_cons] at htk
   rw [← hi1'] at hi1 htk
   generalize rows[i] = rec at *
   simp -dsimp [go_sem,f44,hlt,hcell]
   refine call (takes_spec t l g p { L with ents:=es } G1 V1 last rec Y y w7 lg7 ok7 hT7 hV1t hG1t hrY (by omega) hl1 hl2) ?_
   rintro v w8 ⟨rfl,hK8,hTO⟩
   have hK68:Kp (fun k => G k ∨ t ≤ k) w6 w8:=hK7.trans hK8 fun k hk hs => by
    rcases hs with hs | hs
    ·exact (gG k hs).elim .inl fun e => by omega
    ·exact .inr (by omega)
   have kV8:Kp (fun k => F k ∨ G k) w w8:=(Nw.kp n6 _).trans hK68 fun k hk hs => by
    rcases hs with hs | hs
    ·exact .inr hs
    ·omega
   simp only at htk hTO ⊢
   have htp:=@takeP_some L.base last es rec
   cases hq:takeP L.base last es rec with
   | none =>
    rw [hq] at htk
    simp only at htk
    rw [htk] at e0
    simp only at e0
    rw [e0]
    simp -dsimp [go_sem]
    exact ⟨⟨F,V,dk6.kp hK68 hFG,fun k hk => .inl hk,fun k hk => .inl hk,fun k hk => hk,h.fv,fun e => by cases e⟩,kV8⟩
   | some q =>
    rw [hq] at htk hTO
    simp only at htk
    obtain ⟨hq1,hq2,hq3,hq4⟩:=htp hq ok7.last
    obtain ⟨G2,V2,lg8,hT8,gG8,gV8,hVV8⟩:=hTO q rfl
    simp -dsimp [go_sem,f44,hi1]
    refine ⟨⟨i1,q.1,q.2,G2,V2,rfl,by omega,htk,lg8,hT8,hVV8 t hV1t,fun e => ?_,Gr.trans gG gG8 hK7.size hK8.size,Gr.trans gV gV8 kV.size hK8.size,fun k hk => hVV8 k (hVV k hk),hK68,by omega,hq2,⟨hq3,ok.data,fun e he => ?_⟩⟩,by simp [intOf]; omega⟩
    ·rcases gG8 t e with h | h
     ·exact hG1t h
     ·have:=hT7.lt; omega
    ·rcases hq4 e he with h | h
     ·exact ok7.ents e h
     ·omega
  ·obtain rfl:i = rows.length:=by omega
   rw [List.drop_length] at htk
   have htk:takesP L.base (-1) [] rows = some (last,es):=htk
   rw [htk] at e0
   simp only at e0
   have h7:LS w7 l g p D { L with ents:=es } F G1 V1:=⟨dk7,lg7,fun k hk => hVV k (h.fv k hk),fun k hf hg => by
    rcases gG k hg with h' | h'
    ·exact h.dj k hf h'
    ·have:=h.dk.lt k hf; have:=n6.size; omega⟩
   have e2:logFin D (logN p) good b.length es = if (cutIf D (logN p) good b.length).2 ≠ 0 then ((cutIf D (logN p) good b.length).1,(cutIf D (logN p) good b.length).2,es) else ((emptyIf (cutIf D (logN p) good b.length).1 (logN p) es).1,(emptyIf (cutIf D (logN p) good b.length).1 (logN p) es).2,es):=rfl
   rw [e2] at e0
   clear e2
   have gF:Gr F F w w7:=fun k hk => .inl hk
   have gGG:∀ k,G1 k → k < w.heap.size → G k:=fun k hk hl => (gG k hk).elim id fun e => by have:=n6.size; omega
   simp -dsimp [go_sem,f44]
   by_cases hgd:good < b.length
   ·have hgd':(good:Int) < (b.length:Int):=by omega
    have ec:cutIf D (logN p) good b.length = cutS D (logN p) good:=by unfold cutIf; rw [if_pos hgd]
    rw [ec] at e0
    simp -dsimp [go_sem,hgd,hgd']
    have q0:=LS.c0' h7
    have kq:Kp F w7 (World.drew w7):=(Kp.refl _ _).drew
    have kqN:Nw w7 (World.drew w7):=(Kp.refl _ _).drew
    have hqF:=LS.lF h7
    have q0d:=kq.cell_some q0 hqF
    have q1d:=kqN.cell_some (LS.c1' h7) fun h => h
    refine draw (.take 0 (.take 1 (.take 2 (.take 3 (.take 4 (.take 6 (.alt 5 (.alt 7 (.take 8 .done) .stop) .stop))))))) (by kernel_rfl) (fun wz => Kp F w7 wz) kq ?_
    simp -dsimp [go_sem,q0d]
    refine ⟨fun wz hz => by simp [hz.cell_some q0 hqF],?_⟩
    refine call (logname_spec l p (World.drew w7) q1d hp) ?_
    rintro v wq ⟨rfl,rfl⟩
    refine ⟨kq,?_⟩
    simp -dsimp [go_sem]
    refine call (dtrunc_spec (logN p) good g D F _ (h7.dk.nw kqN) hsN) ?_
    rintro v w8 ⟨rfl,F8,hD8,hG8,hK8⟩
    have hKF:=kq.trans hK8 fun _ _ h => h
    refine ⟨hKF,?_⟩
    have hG78:Gr F F8 w7 w8:=Gr.wide hG8 kqN.size (Nat.le_refl _)
    obtain ⟨h8,gV8⟩:=h7.disk hD8 hG78 hKF
    have kV8:Kp (fun k => F k ∨ G k) w w8:=kV.trans hKF fun i hi hf => .inl hf
    have ecs:cutS D (logN p) good = if (dTrunc D (logN p) good).2 ≠ 0 then dTrunc D (logN p) good else dEach fSync (dTrunc D (logN p) good).1 [logN p]:=rfl
    rw [ecs] at e0
    clear ecs
    obtain ⟨R,hR⟩:∃ R,R = dTrunc D (logN p) good:=⟨_,rfl⟩
    rw [← hR] at e0 hD8 h8 ⊢
    obtain ⟨D8,e8⟩:=R
    simp only at e0 hD8 h8 ⊢
    by_cases h0:e8 = 0
    ·subst h0
     rw [if_neg (show ¬ (0:Nat) ≠ 0 from fun h => h rfl)] at e0
     have gF8:Gr F F8 w w8:=Gr.trans gF hG78 kV.size hKF.size
     have gVV8:Gr V (fun i => V1 i ∨ F8 i) w w8:=Gr.trans gV gV8 kV.size hKF.size
     have hVV8:∀ k,V k → (V1 k ∨ F8 k):=fun k hk => .inl (hVV k hk)
     clear q0 kq kqN hqF q0d q1d hKF
     simp -dsimp [go_sem]
     have q0:=LS.c0' h8
     have kq:Kp F8 w8 (World.drew w8):=(Kp.refl _ _).drew
     have kqN:Nw w8 (World.drew w8):=(Kp.refl _ _).drew
     have hqF:=LS.lF h8
     have q0d:=kq.cell_some q0 hqF
     have q1d:=kqN.cell_some (LS.c1' h8) fun h => h
     refine draw (.take 0 (.take 1 (.take 2 (.take 3 (.take 4 (.alt 5 (.alt 6 (.alt 7 (.take 8 .done) .stop) .stop) .stop)))))) (by kernel_rfl) (fun wz => Kp F8 w8 wz) kq ?_
     simp -dsimp [go_sem,q0d]
     refine ⟨fun wz hz => by simp [hz.cell_some q0 hqF],?_⟩
     refine call (logname_spec l p (World.drew w8) q1d hp) ?_
     rintro v wq ⟨rfl,rfl⟩
     refine ⟨kq,?_⟩
     simp -dsimp [go_sem]
     have kb:Nw w8 (World.drew (World.alloc w8 (.cells #[str (logN p)] 9))):=((Kp.refl _ _).alloc _).drew
     refine ⟨Nw.kp kb F8,?_⟩
     refine call (dsync_spec [logN p] _ 1 g D8 F8 _ (h8.dk.nw kb) ((Rd.fresh (w:=w8) rfl rfl).nw ((Kp.refl _ _).drew)) (h8.dk.ofl_new (Nat.le_refl _) _) (by simp) (by simpa using hsN)) ?_
     rintro v w9 ⟨rfl,F9,hD9,hG9,hK9⟩
     have hKF:=(Nw.kp kb F8).trans hK9 fun _ _ h => h
     refine ⟨hKF,?_⟩
     have hG89:Gr F8 F9 w8 w9:=Gr.wide hG9 kb.size (Nat.le_refl _)
     obtain ⟨h9,gV9⟩:=h8.disk hD9 hG89 hKF
     have kV9:Kp (fun k => F k ∨ G k) w w9:=kV8.trans hKF fun i hi hf => (gF8 i hf).elim .inl fun e => by omega
     obtain ⟨R,hR⟩:∃ R,R = dEach fSync D8 [logN p]:=⟨_,rfl⟩
     rw [← hR] at e0 hD9 h9 ⊢
     obtain ⟨D9,e9⟩:=R
     simp only at e0 hD9 h9 ⊢
     by_cases h1:e9 = 0
     ·subst h1
      rw [if_neg (fun h => h rfl)] at e0
      have gF9:Gr F F9 w w9:=Gr.trans gF8 hG89 kV8.size hKF.size
      have gVV9:Gr V (fun i => (V1 i ∨ F8 i) ∨ F9 i) w w9:=Gr.trans gVV8 gV9 kV8.size hKF.size
      have hVV9:∀ k,V k → ((V1 k ∨ F8 k) ∨ F9 k):=fun k hk => .inl (hVV8 k hk)
      clear q0 kq kqN hqF q0d q1d hKF kb
      clear gF gV hVV h7
      have gF:=gF9
      have gV:=gVV9
      have hVV:=hVV9
      have h7:=h9
      have kV:=kV9
      simp -dsimp [go_sem]
      obtain ⟨B9,d9,A9,c9,vs9,hb9,_⟩:=id h7.lg
      obtain ⟨nes,hnes⟩:∃ nes,nes = es.length:=⟨_,rfl⟩
      have l4:World.cell? w9 ⟨l,4,none⟩ = some (.slice A9 nes c9):=hnes ▸ hb9.cell 4
      by_cases hes:nes = 0
      ·have ee:emptyIf D9 (logN p) es = dEach fRemove D9 [logN p]:=by unfold emptyIf; rw [if_pos (by omega)]
       rw [ee] at e0
       rw [e0]
       simp -dsimp [go_sem,l4,hes]
       have q0:=LS.c0' h7
       have kq:Kp F9 w9 (World.drew w9):=(Kp.refl _ _).drew
       have kqN:Nw w9 (World.drew w9):=(Kp.refl _ _).drew
       have hqF:=LS.lF h7
       have q0d:=kq.cell_some q0 hqF
       have q1d:=kqN.cell_some (LS.c1' h7) fun h => h
       refine draw (.take 0 (.take 1 (.take 2 (.take 3 (.take 4 (.alt 5 (.alt 6 (.alt 7 (.take 8 .done) .stop) .stop) .stop)))))) (by kernel_rfl) (fun wz => Kp F9 w9 wz) kq ?_
       simp -dsimp [go_sem,q0d]
       refine ⟨fun wz hz => by simp [hz.cell_some q0 hqF],?_⟩
       refine call (logname_spec l p (World.drew w9) q1d hp) ?_
       rintro v wq ⟨rfl,rfl⟩
       refine ⟨kq,?_⟩
       simp -dsimp [go_sem]
       have kb:Nw w9 (World.drew (World.alloc w9 (.cells #[str (logN p)] 9))):=((Kp.refl _ _).alloc _).drew
       refine ⟨Nw.kp kb F9,?_⟩
       refine call (dremove_spec [logN p] _ 1 g D9 F9 _ (h7.dk.nw kb) ((Rd.fresh (w:=w9) rfl rfl).nw ((Kp.refl _ _).drew)) (h7.dk.ofl_new (Nat.le_refl _) _) (by simp) (by simpa using hsN)) ?_
       rintro v wE ⟨rfl,FE,hDE,hGE,hKE⟩
       have hKF:=(Nw.kp kb F9).trans hKE fun _ _ h => h
       refine ⟨hKF,?_⟩
       simp -dsimp [go_sem]
       exact ⟨h7.opr hDE (Gr.wide hGE kb.size (Nat.le_refl _)) hKF gF gV hVV kV.size gGG,kV.trans hKF fun i hi hf => (gF i hf).elim .inl fun e => by omega⟩
      ·have ee:emptyIf D9 (logN p) es = (D9,0):=by unfold emptyIf; rw [if_neg (by omega)]
       rw [ee] at e0
       rw [e0]
       have hes':((nes:Int) == 0) = false:=by simp; omega
       simp -dsimp [go_sem,l4,hes']
       exact ⟨h7.opr h7.dk (fun k hk => .inl hk) (Kp.refl _ _) gF gV hVV kV.size gGG,kV⟩
     ·have h1':((e9:Int) != 0) = true:=by simp; omega
      rw [if_pos h1] at e0
      rw [e0]
      simp -dsimp [go_sem,h1',h1]
      exact ⟨h8.opr hD9 hG89 hKF gF8 gVV8 hVV8 kV8.size gGG,kV9⟩
    ·have h0':((e8:Int) != 0) = true:=by simp; omega
     rw [if_pos h0,if_pos h0] at e0
     rw [e0]
     simp -dsimp [go_sem,h0',h0]
     exact ⟨h7.opr hD8 hG78 hKF gF gV hVV kV.size gGG,kV8⟩
   ·have hgd':¬ (good:Int) < (b.length:Int):=by omega
    have ec:cutIf D (logN p) good b.length = (D,0):=by unfold cutIf; rw [if_neg hgd]
    rw [ec,if_neg (fun h => h rfl)] at e0
    simp only at e0
    simp -dsimp [go_sem,hgd,hgd']
    obtain ⟨B9,d9,A9,c9,vs9,hb9,_⟩:=id h7.lg
    obtain ⟨nes,hnes⟩:∃ nes,nes = es.length:=⟨_,rfl⟩
    have l4:World.cell? w7 ⟨l,4,none⟩ = some (.slice A9 nes c9):=hnes ▸ hb9.cell 4
    by_cases hes:nes = 0
    ·have ee:emptyIf D (logN p) es = dEach fRemove D [logN p]:=by unfold emptyIf; rw [if_pos (by omega)]
     rw [ee] at e0
     rw [e0]
     simp -dsimp [go_sem,l4,hes]
     have q0:=LS.c0' h7
     have kq:Kp F w7 (World.drew w7):=(Kp.refl _ _).drew
     have kqN:Nw w7 (World.drew w7):=(Kp.refl _ _).drew
     have hqF:=LS.lF h7
     have q0d:=kq.cell_some q0 hqF
     have q1d:=kqN.cell_some (LS.c1' h7) fun h => h
     refine draw (.take 0 (.take 1 (.take 2 (.take 3 (.take 4 (.alt 5 (.alt 6 (.alt 7 (.take 8 .done) .stop) .stop) .stop)))))) (by kernel_rfl) (fun wz => Kp F w7 wz) kq ?_
     simp -dsimp [go_sem,q0d]
     refine ⟨fun wz hz => by simp [hz.cell_some q0 hqF],?_⟩
     refine call (logname_spec l p (World.drew w7) q1d hp) ?_
     rintro v wq ⟨rfl,rfl⟩
     refine ⟨kq,?_⟩
     simp -dsimp [go_sem]
     have kb:Nw w7 (World.drew (World.alloc w7 (.cells #[str (logN p)] 9))):=((Kp.refl _ _).alloc _).drew
     refine ⟨Nw.kp kb F,?_⟩
     refine call (dremove_spec [logN p] _ 1 g D F _ (h7.dk.nw kb) ((Rd.fresh (w:=w7) rfl rfl).nw ((Kp.refl _ _).drew)) (h7.dk.ofl_new (Nat.le_refl _) _) (by simp) (by simpa using hsN)) ?_
     rintro v wE ⟨rfl,FE,hDE,hGE,hKE⟩
     have hKF:=(Nw.kp kb F).trans hKE fun _ _ h => h
     refine ⟨hKF,?_⟩
     simp -dsimp [go_sem]
     exact ⟨h7.opr hDE (Gr.wide hGE kb.size (Nat.le_refl _)) hKF gF gV hVV kV.size gGG,kV.trans hKF fun i hi hf => (gF i hf).elim .inl fun e => by omega⟩
    ·have ee:emptyIf D (logN p) es = (D,0):=by unfold emptyIf; rw [if_neg (by omega)]
     rw [ee] at e0
     rw [e0]
     have hes':((nes:Int) == 0) = false:=by simp; omega
     simp -dsimp [go_sem,l4,hes']
     exact ⟨h7.opr h7.dk (fun k hk => .inl hk) (Kp.refl _ _) gF gV hVV kV.size gGG,kV⟩
end Go.Proofs.YtellahclbhfdiaaGreatDoor
