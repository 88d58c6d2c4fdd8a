/-
  The reference's ledger in memory; its small functions walked. By the session itself. The reference's keep: Load, has, Whole, Save walked; a disk stays in order. By the session itself. The reference's ledger: image walked. By the session itself. The reference's Scan walked. By the session itself.
-/
import Derived.Test.YtellahclbhfdiaaGreatDoorZ21
import Derived.Test.YtellahclbhfdiaaGreatDoorZ33
import Derived.Test.YtellahclbhfdiaaGreatDoorZ28
import Derived.Test.YtellahclbhfdiaaGreatDoorZ26
import Derived.Test.YtellahclbhfdiaaGreatDoorZ18
namespace Go.Proofs.YtellahclbhfdiaaGreatDoor
set_option linter.unusedSimpArgs false
set_option linter.unusedVariables false
set_option maxRecDepth 100000
set_option maxHeartbeats 1000000
open Go.Vc Go.RowKit
/-- Block l is a ledger of the reference on its disk g: its own blocks lie in G; what it reads only lies outside V. -/
def Rl (w:World) (l g:Nat) (p:Nm) (L:Led) (G V:Nat → Prop):Prop:=∃ B d A c vs,
 Blk w l 127 #[.pointer (some ⟨g,0,none⟩),str p,i64 L.base,.slice B L.data.length d,.slice A L.ents.length c,.bool L.dead] ∧
 Rd w B (L.data.map u8) ∧ Ofl B (L.data.map u8) V ∧ L.data.length ≤ d ∧ Ow w 23 1 A L.ents.length c vs ∧ RV w vs L.ents V ∧
 Off A (At l) ∧ (∀ k,k = l ∨ blk A k → G k) ∧ (∀ k,G k → V k) ∧ (∀ k,V k → k < w.heap.size)
section
variable {w w':World} {l g:Nat} {p:Nm} {L:Led} {G V V' S:Nat → Prop}
theorem Rl.step (h:Rl w l g p L G V) (k:Kp S w w') (hS:∀ i,S i → V i ∧ ¬ G i) (hG:Gr V V' w w') (hV:∀ i,V i → V' i):Rl w' l g p L G V':=by
 obtain ⟨B,d,A,c,vs,hb,hr,ho,hd,hA,hv,hAl,h1,h2,h3⟩:=h
 have hrS:Ofl B (L.data.map u8) S:=fun a ha hx hs => ho a ha hx (hS _ hs).1
 have kV:Kp V w w':=k.mono fun i _ hi => (hS i hi).1
 exact ⟨B,d,A,c,vs,hb.kp k fun e => (hS _ e).2 (h1 _ (.inl rfl)),hr.kp k hrS,ho.gr hr hG,hd,hA.kp k (Off.of_blk fun i hi e => (hS _ e).2 (h1 _ (.inr hi))),hv.gr kV hG,hAl,h1,fun i hi => hV i (h2 i hi),fun i hi => (hG i hi).elim (fun e => Nat.lt_of_lt_of_le (h3 i e) k.size) fun e => e.2⟩
theorem Rl.kp (h:Rl w l g p L G V) (k:Kp S w w') (hS:∀ i,S i → V i ∧ ¬ G i):Rl w' l g p L G V:=h.step k hS (fun i hi => .inl hi) fun i hi => hi
theorem Rl.nw (h:Rl w l g p L G V) (k:Nw w w'):Rl w' l g p L G V:=h.kp k fun _ h => h.elim
theorem Rl.lt (h:Rl w l g p L G V):∀ k,V k → k < w.heap.size:=by
 obtain ⟨B,d,A,c,vs,hb,hr,ho,hd,hA,hv,hAl,h1,h2,h3⟩:=h
 exact h3
theorem Rl.gl (h:Rl w l g p L G V):G l:=by
 obtain ⟨B,d,A,c,vs,hb,hr,ho,hd,hA,hv,hAl,h1,h2,h3⟩:=h
 exact h1 _ (.inl rfl)
theorem Rl.gv (h:Rl w l g p L G V):∀ k,G k → V k:=by
 obtain ⟨B,d,A,c,vs,hb,hr,ho,hd,hA,hv,hAl,h1,h2,h3⟩:=h
 exact h2
theorem Rl.c0 (h:Rl w l g p L G V):w.cell? ⟨l,0,none⟩ = some (.pointer (some ⟨g,0,none⟩)):=by
 obtain ⟨B,d,A,c,vs,hb,_⟩:=h
 exact hb.cell 0
theorem Rl.c1 (h:Rl w l g p L G V):w.cell? ⟨l,1,none⟩ = some (str p):=by
 obtain ⟨B,d,A,c,vs,hb,_⟩:=h
 exact hb.cell 1
theorem Rl.c2 (h:Rl w l g p L G V):w.cell? ⟨l,2,none⟩ = some (i64 L.base):=by
 obtain ⟨B,d,A,c,vs,hb,_⟩:=h
 exact hb.cell 2
theorem Rl.c5 (h:Rl w l g p L G V):w.cell? ⟨l,5,none⟩ = some (.bool L.dead):=by
 obtain ⟨B,d,A,c,vs,hb,_⟩:=h
 exact hb.cell 5
end
theorem rlast_spec (l g:Nat) (p:Nm) (L:Led) (G V:Nat → Prop) (w:World) (h:Rl w l g p L G V) (ok:L.Ok) :
  Cal Tryz.prog 68 #[.pointer (some ⟨l,0,none⟩)] w fun v w' => v = i64 L.last ∧ Nw w w':=by
 obtain ⟨B,d,A,c,vs,hb,_⟩:=h
 have hk:=ok.last
 have kd:Nw w w.drew:=(Kp.refl _ _).drew
 have c2:w.cell? ⟨l,2,none⟩ = some (i64 L.base):=hb.cell 2
 have c4:w.cell? ⟨l,4,none⟩ = some (.slice A L.ents.length c):=hb.cell 4
 have c2d:=kd.cell_some c2 fun h => h
 have c4d:=kd.cell_some c4 fun h => h
 have hw:IntKind.i64.wrap ((L.base:Int) + (L.ents.length:Int)) = ((L.last:Nat):Int):=by unfold Led.last; rw [w64 (by omega) (by omega)]; omega
 refine enter Tryz.mixed Tryz.func68 rfl (by kernel_rfl) ?_
 simp -dsimp [go_sem]
 refine draw (.take 0 (.take 1 (.take 2 (.take 3 (.take 4 (.take 5 (.take 6 (.take 7 (.take 8 (.take 9 (.take 10 .done))))))))))) (by kernel_rfl) (fun wz => Nw w wz) kd ?_
 simp -dsimp [go_sem,c2d,c4d,hw]
 exact ⟨fun wz hz => by simp [hz.cell_some c2 fun h => h],fun wz hz => by simp [hz.cell_some c4 fun h => h],kd⟩
/-- A ledger of the reference and its disk. -/
structure RS (w:World) (l g:Nat) (p:Nm) (D:Dsk) (L:Led) (F G V:Nat → Prop):Prop where
 dk:RefD w g D F
 lg:Rl w l g p L G V
 fv:∀ i,F i → V i
 dj:∀ i,F i → ¬ G i
section
variable {w w':World} {l g:Nat} {p:Nm} {D D':Dsk} {L L':Led} {F F' G G' V V' S:Nat → Prop}
theorem RS.nw (h:RS w l g p D L F G V) (k:Nw w w'):RS w' l g p D L F G V:=⟨h.dk.nw k,h.lg.nw k,h.fv,h.dj⟩
theorem RS.lF (h:RS w l g p D L F G V):¬ F l:=fun e => h.dj l e h.lg.gl
/-- The disk has turned. -/
theorem RS.disk (h:RS w l g p D L F G V) (hD:RefD w' g D' F') (hG:Gr F F' w w') (hK:Kp F w w'):RS w' l g p D' L F' G (fun i => V i ∨ F' i) ∧ Gr V (fun i => V i ∨ F' i) w w':=by
 have hGV:Gr V (fun i => V i ∨ F' i) w w':=fun i hi => hi.elim .inl fun e => (hG i e).imp (h.fv i) id
 refine ⟨⟨hD,h.lg.step hK (fun i hi => ⟨h.fv i hi,h.dj i hi⟩) hGV fun i hi => .inl hi,fun i hi => .inr hi,fun i hi hg => ?_⟩,hGV⟩
 rcases hG i hi with e | e
 ·exact h.dj i e hg
 ·have:=h.lg.lt i (h.lg.gv i hg); omega
/-- The ledger's own blocks have turned. -/
theorem RS.own (h:RS w l g p D L F G V) (hL:Rl w' l g p L' G' V') (hG:Gr G G' w w') (hV:∀ i,V i → V' i) (hK:Kp G w w'):RS w' l g p D L' F G' V' :=
 ⟨h.dk.kp hK fun i hf hg => h.dj i hf hg,hL,fun i hi => hV i (h.fv i hi),fun i hf hg => by
  rcases hG i hg with e | e
  ·exact h.dj i hf e
  ·have:=h.dk.lt i hf; omega⟩
end
/-- An entry more. -/
theorem rl_push {w w2:World} {l g:Nat} {p:Nm} {L:Led} {G V:Nat → Prop} {B A A2 X:Option Addr} {d c c2 n2 x:Nat} {vs:List Value} {e:List UInt8}
  (hb:Blk w l 127 #[.pointer (some ⟨g,0,none⟩),str p,i64 L.base,.slice B L.data.length d,.slice A L.ents.length c,.bool L.dead]) (hr:Rd w B (L.data.map u8)) (ho:Ofl B (L.data.map u8) V) (hd:L.data.length ≤ d) (hA:Ow w 23 1 A L.ents.length c vs) (hv:RV w vs L.ents V)
  (hAl:Off A (At l)) (h1:∀ k,k = l ∨ blk A k → G k) (h2:∀ k,G k → V k) (h3:∀ k,V k → k < w.heap.size)
  (hA2:Ow w2 23 1 A2 n2 c2 (vs ++ [.slice X e.length x])) (hn2:n2 = L.ents.length + 1) (hK:Kp (blk A) w w2) (hAA:∀ k,blk A2 k → blk A k ∨ w.heap.size ≤ k) (hrX:Rd w X (e.map u8)) (hoX:Ofl X (e.map u8) V) (hdX:e.length ≤ x) :
  Rl (w2.setCell ⟨l,4,none⟩ (.slice A2 n2 c2)) l g p { L with ents:=L.ents ++ [e] } (fun k => G k ∨ blk A2 k) (fun k => V k ∨ blk A2 k) ∧ Gr G (fun k => G k ∨ blk A2 k) w (w2.setCell ⟨l,4,none⟩ (.slice A2 n2 c2)) ∧ Gr V (fun k => V k ∨ blk A2 k) w (w2.setCell ⟨l,4,none⟩ (.slice A2 n2 c2)) ∧ Kp G w (w2.setCell ⟨l,4,none⟩ (.slice A2 n2 c2)):=by
 subst hn2
 have hGl:G l:=h1 _ (.inl rfl)
 have ks:Kp (At l) w2 (w2.setCell ⟨l,4,none⟩ (.slice A2 (L.ents.length + 1) c2)):=(Kp.refl _ _).setCell_at _ _
 have kG:Kp G w (w2.setCell ⟨l,4,none⟩ (.slice A2 (L.ents.length + 1) c2)):=(hK.mono fun i _ hi => h1 i (.inr hi)).trans ks fun i _ (e:i = l) => e ▸ hGl
 have hA2l:∀ k,blk A2 k → k < (w2.setCell ⟨l,4,none⟩ (.slice A2 (L.ents.length + 1) c2)).heap.size:=fun k hk => by
  obtain ⟨a,ha,rfl⟩:=blk_of hk
  exact Nat.lt_of_lt_of_le (hA2.lt a ha) ks.size
 have hlw:=h3 l (h2 l hGl)
 have hA2n:Off A2 (At l):=Off.of_blk fun k hk (e:k = l) => by
  rcases hAA k hk with h | h
  ·obtain ⟨a,ha,e2⟩:=blk_of h
   exact hAl a ha (by show a.block = l; omega)
  ·omega
 have gG:Gr G (fun k => G k ∨ blk A2 k) w (w2.setCell ⟨l,4,none⟩ (.slice A2 (L.ents.length + 1) c2)):=fun k hk => by
  rcases hk with h | h
  ·exact .inl h
  ·exact (hAA k h).imp (fun e => h1 k (.inr e)) fun e => ⟨e,hA2l k h⟩
 have gV:Gr V (fun k => V k ∨ blk A2 k) w (w2.setCell ⟨l,4,none⟩ (.slice A2 (L.ents.length + 1) c2)):=fun k hk => by
  rcases hk with h | h
  ·exact .inl h
  ·exact (hAA k h).imp (fun e => h2 k (h1 k (.inr e))) fun e => ⟨e,hA2l k h⟩
 have kV:Kp V w (w2.setCell ⟨l,4,none⟩ (.slice A2 (L.ents.length + 1) c2)):=kG.mono fun i _ hi => h2 i hi
 refine ⟨⟨B,d,A2,c2,_,?_,hr.kp kV ho,ho.gr hr gV,hd,?_,(hv.append (RV.one hrX hoX hdX)).gr kV gV,hA2n,fun k hk => ?_,fun k hk => hk.imp (h2 k) id,fun k hk => ?_⟩,gG,gV,kG⟩
 ·have:=(hb.kp hK fun e => by obtain ⟨a,ha,e2⟩:=blk_of e; exact hAl a ha e2).set 4 (.slice A2 (L.ents.length + 1) c2)
  simpa using this
 ·have:=hA2.kp ks hA2n
  simpa using this
 ·rcases hk with rfl | hk
  ·exact .inl hGl
  ·exact .inr hk
 ·rcases gV k hk with h | h
  ·exact Nat.lt_of_lt_of_le (h3 k h) kV.size
  ·exact h.2
/-- A ledger's number, its data set. -/
theorem Rl.set2 {w:World} {l g:Nat} {p:Nm} {L:Led} {G V:Nat → Prop} (h:Rl w l g p L G V) (n:Nat) :
  Rl (w.setCell ⟨l,2,none⟩ (i64 n)) l g p { L with base:=n } G V ∧ Kp (At l) w (w.setCell ⟨l,2,none⟩ (i64 n)):=by
 obtain ⟨B,d,A,c,vs,hb,hr,ho,hd,hA,hv,hAl,h1,h2,h3⟩:=h
 have hVl:V l:=h2 _ (h1 _ (.inl rfl))
 have ks:Kp (At l) w (w.setCell ⟨l,2,none⟩ (i64 n)):=(Kp.refl _ _).setCell_at _ _
 refine ⟨⟨B,d,A,c,vs,?_,hr.kp ks (fun a ha hx (e:a.block = l) => ho a ha hx (e ▸ hVl)),ho,hd,hA.kp ks hAl,hv.gr (ks.mono fun i _ (e:i = l) => e ▸ hVl) (fun i hi => .inl hi),hAl,h1,h2,fun k hk => Nat.lt_of_lt_of_le (h3 k hk) ks.size⟩,ks⟩
 have:=hb.set 2 (i64 n)
 simpa using this
theorem Rl.set3 {w:World} {l g:Nat} {p:Nm} {L:Led} {G V:Nat → Prop} (h:Rl w l g p L G V) {u:Value} {b:List UInt8} {B0:Nat} (hu:Bs w u b B0) (hB:∀ k,V k → k < B0) :
  Rl (w.setCell ⟨l,3,none⟩ u) l g p { L with data:=b } G V ∧ Kp (At l) w (w.setCell ⟨l,3,none⟩ u):=by
 obtain ⟨B,d,A,c,vs,hb,hr,ho,hd,hA,hv,hAl,h1,h2,h3⟩:=h
 obtain ⟨X,x,rfl,hoX,hX⟩:=hu
 have hVl:V l:=h2 _ (h1 _ (.inl rfl))
 have ks:Kp (At l) w (w.setCell ⟨l,3,none⟩ (.slice X b.length x)):=(Kp.refl _ _).setCell_at _ _
 have hXV:Off X V:=fun a ha hv => by have:=hX a ha; have:=hB _ hv; omega
 refine ⟨⟨X,x,A,c,vs,?_,(hoX.kp ks fun a ha (e:a.block = l) => hXV a ha (e ▸ hVl)).rd,hXV.l _,hoX.2.1,hA.kp ks hAl,hv.gr (ks.mono fun i _ (e:i = l) => e ▸ hVl) (fun i hi => .inl hi),hAl,h1,h2,fun k hk => Nat.lt_of_lt_of_le (h3 k hk) ks.size⟩,ks⟩
 have:=hb.set 3 (.slice X b.length x)
 simpa using this
theorem rlhas_spec (s:Nm) (l g:Nat) (D:Dsk) (F:Nat → Prop) (w:World) (h0:w.cell? ⟨l,0,none⟩ = some (.pointer (some ⟨g,0,none⟩))) (h:RefD w g D F) (ok:D.Ok) :
  Cal Tryz.prog 130 #[.pointer (some ⟨l,0,none⟩),str s] w fun v w' => v = .bool (tLook D.fs s).isSome ∧ Nw w w':=by
 refine enter Tryz.mixed Tryz.func130 rfl (by kernel_rfl) ?_
 simp -dsimp [go_sem,h0]
 refine call (rread_spec s g D F w h ok) ?_
 rintro v w1 ⟨hk1,u,rfl,hB⟩
 cases hx:tLook D.fs s with
 | none =>
  have e:(dRead D s).2 = 7:=by unfold dRead; rw [hx]
  rw [e]
  simp -dsimp [go_sem]
  exact hk1
 | some y =>
  have e:(dRead D s).2 = 0:=by unfold dRead; rw [hx]
  rw [e]
  simp -dsimp [go_sem]
  exact hk1
theorem dStep_ok {D:Dsk} (h:D.Ok) (f:Dsk → Nm → Fil → Dsk) (hf:∀ s x,tLook D.fs s = some x → (f D s x).Ok) (s:Nm):(dStep f D s).1.Ok:=by
 unfold dStep
 split
 ·exact h
 ·split
  ·exact h
  ·rename_i x hx
   exact (hf s x hx).done
theorem dSync_ok {D:Dsk} (h:D.Ok) (s:Nm):(dStep fSync D s).1.Ok:=dStep_ok h _ (fun s x hx => h.lay s ⟨x.b,x.b.length⟩ (Nat.le_refl _) (by rw [hx]; simp only [Option.getD_some]; have:=h.used; omega) (fun e => by rw [hx] at e; cases e) (h.names s x hx)) s
theorem dRemove_ok {D:Dsk} (h:D.Ok) (s:Nm):(dStep fRemove D s).1.Ok:=dStep_ok h _ (fun s x hx => h.rem s) s
theorem rkload_spec (s:Nm) (x:Nat) (D:Dsk) (F:Nat → Prop) (w:World) (h:RefD w x D F) (ok:D.Ok) :
  Cal Tryz.prog 188 #[.pointer (some ⟨x,0,none⟩),str s] w fun v w' => Nw w w' ∧ ∃ u,v = .tuple #[u,i64 (kLoad D s).2] ∧ Bs w' u (kLoad D s).1 w.heap.size:=by
 have hlen:=dRead_len ok s
 have e0:kLoad D s = if (dRead D s).2 ≠ 0 then ([],(dRead D s).2) else if (oneL (dRead D s).1).2 ≠ 0 then ([],3) else ((oneL (dRead D s).1).1,0):=rfl
 have e7:(dRead D s).2 = 0 ∨ (dRead D s).2 = 7:=by unfold dRead; split <;> simp
 refine enter Tryz.mixed Tryz.func188 rfl (by kernel_rfl) ?_
 simp -dsimp [go_sem]
 refine call (rread_spec s x D F w h ok) ?_
 rintro v w1 ⟨hk1,u,rfl,hB⟩
 obtain ⟨R,hR⟩:∃ R,R = dRead D s:=⟨_,rfl⟩
 rw [← hR] at hlen e0 e7 hB ⊢
 obtain ⟨b,e⟩:=R
 simp only at hlen e0 e7 hB ⊢
 obtain ⟨X,c,rfl,hoX,hX⟩:=id hB
 rcases e7 with rfl | rfl
 ·rw [if_neg (fun h => h rfl)] at e0
  simp -dsimp [go_sem]
  refine call (refOne_spec b X c w1 hoX.rd hoX.2.1 (by omega)) ?_
  rintro v w2 ⟨hk2,u,rfl,hB2⟩
  obtain ⟨R,hR⟩:∃ R,R = oneL b:=⟨_,rfl⟩
  rw [← hR] at e0 hB2 ⊢
  obtain ⟨q,e⟩:=R
  simp only at e0 hB2 ⊢
  by_cases h0:e = 0
  ·subst h0
   rw [if_neg (fun h => h rfl)] at e0
   rw [e0]
   simp -dsimp [go_sem]
   exact ⟨hk1.nw hk2,hB2.mono hk1.size⟩
  ·rw [if_pos h0] at e0
   rw [e0]
   have h0':((e:Int) != 0) = true:=by simp; omega
   simp -dsimp [go_sem,h0',h0]
   exact ⟨hk1.nw hk2,Bs.nil _ _⟩
 ·rw [if_pos (by decide)] at e0
  rw [e0]
  simp -dsimp [go_sem]
  exact ⟨hk1,Bs.nil _ _⟩
theorem rv_less {w:World} {vs:List Value} {ps:List (List UInt8)} {S W:Nat → Prop} (h:RV w vs ps S) (hW:∀ i,W i → S i):RV w vs ps W:=⟨h.1,fun i hi => by
 obtain ⟨B,d,h1,h2,h3,h4⟩:=h.2 i hi
 exact ⟨B,d,h1,h2,fun a ha hx hs => h3 a ha hx (hW _ hs),h4⟩⟩
theorem Rl.less {w:World} {l g:Nat} {p:Nm} {L:Led} {G V W:Nat → Prop} (h:Rl w l g p L G V) (hW:∀ i,W i → V i) (hG:∀ i,G i → W i):Rl w l g p L G W:=by
 obtain ⟨B,d,A,c,vs,hb,hr,ho,hd,hA,hv,hAl,h1,h2,h3⟩:=h
 exact ⟨B,d,A,c,vs,hb,hr,fun a ha hx hs => ho a ha hx (hW _ hs),hd,hA,rv_less hv hW,hAl,h1,hG,fun k hk => h3 k (hW k hk)⟩
theorem kLoad_kinds (D:Dsk) (s:Nm):(tLook D.fs s = none ∧ kLoad D s = ([],7)) ∨ ((tLook D.fs s).isSome = true ∧ ((kLoad D s).2 = 0 ∨ (kLoad D s).2 = 3)):=by
 cases hx:tLook D.fs s with
 | none =>
  have e:dRead D s = ([],7):=by unfold dRead; rw [hx]
  refine .inl ⟨rfl,?_⟩
  unfold kLoad
  rw [e]
  rfl
 | some y =>
  have e:dRead D s = (y.b,0):=by unfold dRead; rw [hx]
  refine .inr ⟨rfl,?_⟩
  unfold kLoad
  rw [e,if_neg (fun h => h rfl)]
  split
  ·exact .inr rfl
  ·exact .inl rfl
theorem rimage_spec (l g:Nat) (p:Nm) (D:Dsk) (F G V:Nat → Prop) (w:World) (h:RS w l g p D ⟨0,[],[],false⟩ F G V) (ok:D.Ok) (hp:p.length ≤ 20) :
  Cal Tryz.prog 132 #[.pointer (some ⟨l,0,none⟩)] w fun v w' => v = i64 (imgL D p).2.2 ∧ Rl w' l g p ⟨(imgL D p).1,(imgL D p).2.1,[],false⟩ G V ∧ Kp (At l) w w':=by
 have c0:=h.lg.c0
 have c1:=h.lg.c1
 have e0:imgL D p = if (kLoad D (imgN p)).2 = 7 then (0,[],0) else if (kLoad D (imgN p)).2 ≠ 0 then (0,[],(kLoad D (imgN p)).2) else
  ((numRow (kLoad D (imgN p)).1).2.1,(numRow (kLoad D (imgN p)).1).2.2,if (numRow (kLoad D (imgN p)).1).1 = false ∨ 1099511627776 < (numRow (kLoad D (imgN p)).1).2.1 then 3 else 0):=rfl
 have hlen:=kLoad_len ok (imgN p)
 have hn:¬ 9223372036854775807 < p.length + 4:=by omega
 have hcat:(⟨p.toArray⟩:ByteArray) ++ ⟨#[45,105,109,103]⟩ = ⟨(imgN p).toArray⟩:=cat_str p [45,105,109,103]
 have hkk:=kLoad_kinds D (imgN p)
 refine enter Tryz.mixed Tryz.func132 rfl (by kernel_rfl) ?_
 generalize imgN p = im at *
 simp -dsimp [go_sem,c1,hn,hcat]
 refine call (rlhas_spec im l g D F w c0 h.dk ok) ?_
 rintro v w1 ⟨rfl,hk1⟩
 have h1:=h.nw hk1
 rcases hkk with ⟨hx,hk⟩ | ⟨hx,hk⟩
 ·rw [hx]
  rw [hk,if_pos rfl] at e0
  rw [e0]
  simp -dsimp [go_sem]
  exact ⟨h1.lg,Nw.kp hk1 _⟩
 rw [hx]
 have c01:=h1.lg.c0
 have c11:=h1.lg.c1
 have kd:Nw w1 w1.drew:=(Kp.refl _ _).drew
 have c0d:=kd.cell_some c01 fun h => h
 have c1d:=kd.cell_some c11 fun h => h
 simp -dsimp [go_sem]
 refine draw (.take 0 (.take 1 (.take 2 (.take 3 (.take 4 (.take 5 (.take 6 (.take 7 (.take 8 (.alt 9 (.take 10 (.take 11 (.take 12 (.take 13 (.take 14 .done))))) .stop)))))))))) (by kernel_rfl) (fun wz => Nw w1 wz) kd ?_
 simp -dsimp [go_sem,c0d,c1d,hn,hcat]
 repeat refine ⟨fun wz hz => by simp [hz.cell_some c01 fun h => h,hz.cell_some c11 fun h => h],?_⟩
 refine call (rkload_spec im g D F _ (h1.dk.nw kd) ok) ?_
 rintro v w2 ⟨hk2,u,rfl,hB⟩
 have n12:=kd.nw hk2
 have n2:=hk1.nw n12
 refine ⟨n12,?_⟩
 obtain ⟨R,hR⟩:∃ R,R = kLoad D im:=⟨_,rfl⟩
 rw [← hR] at e0 hlen hB hk ⊢
 obtain ⟨b,e⟩:=R
 simp only at e0 hlen hB hk ⊢
 obtain ⟨X,x,rfl,hoX,hX⟩:=id hB
 have h2:=h.nw n2
 rcases hk with rfl | rfl
 ·rw [if_neg (by decide),if_neg (by decide)] at e0
  simp -dsimp [go_sem]
  have ka:Nw w2 (w2.alloc (.cells #[.slice X b.length x,.bool false] 85)):=(Kp.refl _ _).alloc _
  have hRd:=RefR.new hoX.rd hoX.2.1
  have hrs:w2.heap.size < (w2.alloc (.cells #[.slice X b.length x,.bool false] 85)).heap.size:=by simp
  obtain ⟨r,hr⟩:∃ r,r = w2.heap.size:=⟨_,rfl⟩
  rw [← hr] at hRd hrs ⊢
  have n3:=n2.nw ka
  have hFR:∀ k,(k = r ∨ (b ≠ [] ∧ blk X k)) → w.heap.size ≤ k:=fun k hk => by
   rcases hk with rfl | ⟨_,hk⟩
   ·have:=n2.size; omega
   ·obtain ⟨a,ha,rfl⟩:=blk_of hk
    have:=hX a ha
    have:=(hk1.nw kd).size
    omega
  have hL3:Rl _ l g p _ G (fun k => V k ∨ k = r):=h2.lg.step ka (fun _ h => h.elim) (fun k hk => hk.imp id fun e => by subst e; exact ⟨by omega,hrs⟩) fun k hk => .inl hk
  generalize w2.alloc (.cells #[.slice X b.length x,.bool false] 85) = w3 at *
  have hGw:∀ k,G k → k < w.heap.size:=fun k hk => h.lg.lt k (h.lg.gv k hk)
  have hrw:w.heap.size ≤ r:=hFR r (.inl rfl)
  have hSr:∀ i,i = r → (V i ∨ i = r) ∧ ¬ G i:=fun i e => ⟨.inr e,fun hg => by have:=hGw i hg; omega⟩
  refine call (refNumT_spec r b false _ w3 hRd (by omega)) ?_
  rintro v w4 ⟨rfl,hRd4,hk4⟩
  have n4:Nw w w4:=n3.at_ hk4 fun k (e:k = r) => by omega
  have hL4:=hL3.kp hk4 hSr
  obtain ⟨B0,d0,A0,c00,vs0,hb4,_⟩:=id hL4
  have q2:=hb4.cell 2
  have f2:=hb4.frozen 2
  have hlw:l < w.heap.size:=hGw l h.lg.gl
  have hnl:=numL_len b false
  have hbl:=bytL_len (numL b false).2.1 (numL b false).2.2
  have en:numRow b = (!(bytL (numL b false).2.1 (numL b false).2.2).2.2 && (bytL (numL b false).2.1 (numL b false).2.2).2.1.isEmpty,(numL b false).1,(bytL (numL b false).2.1 (numL b false).2.2).1):=rfl
  rw [en] at e0
  simp only at e0
  obtain ⟨hL5,hk5⟩:=hL4.set2 (numL b false).1
  have hRd5:=hRd4.kp_ hk5 fun k hk (e:k = l) => by have:=hFR k hk; omega
  obtain ⟨n,hn'⟩:∃ n,n = (numL b false).1:=⟨_,rfl⟩
  rw [← hn'] at hL5 hk5 hRd5 e0 ⊢
  simp -dsimp [go_sem,q2,f2]
  generalize w4.setCell ⟨l,2,none⟩ (i64 n) = w5 at *
  refine call (refBytesT_spec r _ _ _ w5 hRd5 (by omega)) ?_
  rintro v w6 ⟨hB6,hRd6,hk6⟩
  have hL6:=hL5.kp hk6 hSr
  have hV6:∀ k,(V k ∨ k = r) → k < w5.heap.size:=hL5.lt
  obtain ⟨B1,d1,A1,c11',vs1,hb6,_⟩:=id hL6
  have q3:=hb6.cell 3
  have f3:=hb6.frozen 3
  obtain ⟨hL7,hk7⟩:=hL6.set3 hB6 hV6
  have hRd7:=hRd6.kp_ hk7 fun k hk (e:k = l) => by have:=hFR k hk; omega
  obtain ⟨Y,y,rfl,hoY,hY⟩:=id hB6
  have k57:Kp (fun k => k = l ∨ k = r) w4 _:=((hk5.mono fun k _ e => .inl e).trans hk6 fun k _ e => .inr e).trans hk7 fun k _ e => .inl e
  have n7:Kp (At l) w _:=(Nw.kp n4 (At l)).trans k57 fun k hk e => e.elim id fun e => by omega
  have hl2:=hL7.c2
  have hres:=hL7.less (W:=V) (fun i hi => .inl hi) h.lg.gv
  simp only at hl2
  generalize (bytL (numL b false).2.1 (numL b false).2.2).2.2 = bad at *
  generalize (bytL (numL b false).2.1 (numL b false).2.2).2.1 = rest at *
  generalize (bytL (numL b false).2.1 (numL b false).2.2).1 = data at *
  obtain ⟨yl,hyl⟩:∃ yl,yl = data.length:=⟨_,rfl⟩
  rw [← hyl] at hres n7 hk7 hRd7 hl2 ⊢
  simp -dsimp [go_sem,q3,f3]
  generalize w6.setCell ⟨l,3,none⟩ (.slice Y yl y) = w7 at *
  refine call (refWhole_spec r rest bad _ w7 hRd7) ?_
  rintro u w8 ⟨rfl,rfl⟩
  cases hwh:(!bad && rest.isEmpty) with
  | false =>
   rw [hwh,if_pos (.inl rfl)] at e0
   rw [e0]
   simp -dsimp [go_sem]
   exact ⟨hres,n7⟩
  | true =>
   rw [hwh] at e0
   by_cases hbig:1099511627776 < n
   ·rw [if_pos (.inr hbig)] at e0
    have hbig':(1099511627776:Int) < (n:Int):=by omega
    rw [e0]
    simp -dsimp [go_sem,hl2,hbig,hbig']
    exact ⟨hres,n7⟩
   ·rw [if_neg (by simp; omega)] at e0
    have hbig':¬ (1099511627776:Int) < (n:Int):=by omega
    rw [e0]
    simp -dsimp [go_sem,hl2,hbig,hbig']
    exact ⟨hres,n7⟩
 ·rw [if_neg (by decide),if_pos (by decide)] at e0
  rw [e0]
  simp -dsimp [go_sem]
  exact ⟨h2.lg,Nw.kp n2 _⟩
theorem refScan_spec (b:List UInt8) (A:Option Addr) (c:Nat) (w:World) (hr:Rd w A (b.map u8)) (hc:b.length ≤ c) (hl:b.length ≤ 1000000000000) :
  Cal Tryz.prog 189 #[.slice A b.length c] w fun v w' => Nw w w' ∧ ∃ u,v = .tuple #[u,i64 (scanL (b.length + 1) b).2] ∧ Rs w' u (scanL (b.length + 1) b).1 w.heap.size:=by
 refine enter Tryz.mixed Tryz.func189 rfl (by kernel_rfl) ?_
 simp -dsimp [go_sem]
 obtain ⟨L,hL⟩:∃ L,L = b.length:=⟨_,rfl⟩
 rw [← hL] at hc hl ⊢
 refine loop [4,5,6,7,8,9,10,11,12,13,14,15,16,17,18,19,20,21,22,23,24,25,26,27,28,29] (by kernel_rfl)
  (fun f w' => Box2 (fun x y w' => ∃ (m k:Nat) (ps:List (List UInt8)) (vs:List Value) (F:Nat → Prop),y = i64 m ∧ m ≤ L ∧ L - m < k ∧ 12 * ps.length ≤ m ∧ (scanL (L + 1) b).1 = ps ++ (scanL k (b.drop m)).1 ∧ (scanL (L + 1) b).2 = m + (scanL k (b.drop m)).2 ∧ Gf w' 23 1 x ps.length vs F ∧ RV w' vs ps (fun k => F k ∨ k < w.heap.size) ∧ Nf w F ∧ Nw w w') (f 4) (f 5) w')
  (fun f _ => L - (intOf (f 5)).toNat) ⟨0,L + 1,[],[],fun _ => False,rfl,Nat.zero_le _,by omega,by simp,by simp,by simp,Gf.nil _ _ _,RV.nil _ _,fun _ h => h.elim,Kp.refl _ _⟩ ?_
 rintro f w' ⟨m,k,ps,vs,F,f5,hm,hk,hps,hs1,hs2,hG,hV,nF,hK⟩
 have hdl:(b.drop m).length = L - m:=by rw [List.length_drop,hL]
 obtain ⟨k,rfl⟩:∃ k',k = k' + 1:=⟨k - 1,by omega⟩
 simp -dsimp [go_sem,f5]
 refine cond_d (fun hlt => ?_) (fun hlt => ?_)
 ·have hlt:m < L:=by omega
  have hmc:m ≤ c:=by omega
  have hmL:m ≤ L:=by omega
  have hmL':(m:Int) ≤ (L:Int):=by omega
  have hne:¬ (b.drop m).length = 0:=by omega
  have hd:=refDecode_spec (b.drop m) (cutA A c m) (c - m) w' (by rw [List.map_drop]; exact (hr.nw hK).cut (by simp; omega) m) (by omega) (by omega)
  rw [hdl] at hd
  simp -dsimp [go_sem,f5,hmc,hmL,hmL']
  refine call hd ?_
  rintro v w1 ⟨hk1,u,rfl,hB⟩
  have hle:=decL_le (b.drop m)
  obtain ⟨p,hp⟩:∃ p,p = (decL (b.drop m)).1:=⟨_,rfl⟩
  obtain ⟨n,hn⟩:∃ n,n = (decL (b.drop m)).2.1:=⟨_,rfl⟩
  obtain ⟨e,he⟩:∃ e,e = (decL (b.drop m)).2.2:=⟨_,rfl⟩
  rw [← hp] at hB
  rw [← hn,← he] at hle ⊢
  rw [hdl] at hle
  have es:scanL (k + 1) (b.drop m) = if e = 0 then (p :: (scanL k ((b.drop m).drop n)).1,n + (scanL k ((b.drop m).drop n)).2) else ([],0):=by
   simp only [scanL]
   rw [if_neg hne,← hp,← hn,← he]
  have k1:Nw w w1:=hK.nw hk1
  by_cases h0:e = 0
  ·subst h0
   have hle2:=hle.2 rfl
   have hnd:=List.drop_drop (i:=n) (j:=m) (l:=b)
   rw [if_pos rfl,hnd] at es
   rw [es] at hs1 hs2
   obtain ⟨A1,c1,rfl,ho1,hA1⟩:=hB
   simp -dsimp [go_sem]
   have hG1:=hG.nw hk1
   have hV1:=hV.nw hk1
   have ka:Nw w1 (w1.alloc (.cells #[.slice A1 p.length c1] 23)):=(Kp.refl _ _).alloc _
   refine gf_app Tryz.Srows (hG1.nw ka) (Rd.fresh (xs:=[.slice A1 p.length c1]) rfl rfl) (m:=1) (by simp) (by simp [Value.oneCell']) (by omega) (by omega) ?_
   intro v2 w2 F2 hG2 hGr hK2
   have hoff:Off A1 (fun k => F k ∨ k < w.heap.size):=fun a ha hf => by
    have:=hA1 a ha
    have:=hK.size
    rcases hf with hf | hf
    ·have:=hG.lt _ hf
     omega
    ·omega
   have hV2:RV w2 (vs ++ [.slice A1 p.length c1]) (ps ++ [p]) (fun k => F2 k ∨ k < w.heap.size):=((hV1.nw ka).append (RV.one (ho1.rd.nw ka) (hoff.l _) ho1.2.1)).gr (hK2.mono fun _ _ h => .inl h) fun i hi => hi.elim (fun e => (hGr i e).imp .inl id) fun e => .inl (.inr e)
   have w3':IntKind.i64.wrap ((m:Int) + (n:Int)) = ((m + n:Nat):Int):=w64 (by omega) (by omega)
   obtain ⟨m2,hm2⟩:∃ m2,m2 = m + n:=⟨_,rfl⟩
   rw [← hm2] at w3' hs1 hs2
   simp -dsimp [go_sem,f5,w3']
   refine ⟨⟨m2,k,ps ++ [p],_,F2,rfl,by omega,by omega,by simp; omega,?_,by omega,by simpa using hG2,hV2,nF.gr hGr (k1.alloc (.cells #[.slice A1 p.length c1] 23)).size,(k1.alloc _).at_ hK2 nF⟩,by simp [intOf]; omega⟩
   rw [hs1]
   simp
  ·have h0':((e:Int) != 0) = true:=by simp; omega
   rw [if_neg h0] at es
   rw [es] at hs1 hs2
   simp -dsimp [go_sem,h0']
   rw [hs1,hs2]
   exact ⟨k1,f 4,⟨rfl,f5⟩,vs,F,by simpa using hG.nw hk1,by simpa using hV.nw hk1,nF⟩
 ·obtain rfl:m = L:=by omega
  have e0:(scanL (k + 1) (b.drop m)) = ([],0):=by
   simp only [scanL]
   rw [if_pos (by omega)]
  rw [e0] at hs1 hs2
  simp -dsimp [go_sem]
  rw [hs1,hs2]
  exact ⟨hK,f 4,⟨rfl,f5⟩,vs,F,by simpa using hG,by simpa using hV,nF⟩
end Go.Proofs.YtellahclbhfdiaaGreatDoor
