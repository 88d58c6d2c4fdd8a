/-
  A ledger: Open walked. By the session itself. A ledger: Append walked. By the session itself.
-/
import Derived.Test.YtellahclbhfdiaaGreatDoorZ20
namespace Go.Proofs.YtellahclbhfdiaaGreatDoor
set_option linter.unusedSimpArgs false
set_option linter.unusedVariables false
set_option maxRecDepth 100000
set_option maxHeartbeats 2000000
open Go.Vc Go.RowKit
theorem takesP_ok {base N:Nat}:∀ (rows:List (List UInt8)) (last:Int) (es:List (List UInt8)) (q:Int × List (List UInt8)),takesP base last es rows = some q → base + es.length ≤ 1099511627776 → (∀ r ∈ rows,r.length ≤ N) → (∀ e ∈ es,e.length ≤ N) → base + q.2.length ≤ 1099511627776 ∧ ∀ e ∈ q.2,e.length ≤ N
 | [],last,es,q,h,h1,h2,h3 => by
  cases h
  exact ⟨h1,h3⟩
 | b :: r,last,es,q,h,h1,h2,h3 => by
  rw [takesP_cons] at h
  cases ht:takeP base last es b with
  | none => rw [ht] at h; cases h
  | some q1 =>
   rw [ht] at h
   obtain ⟨a1,a2,a3,a4⟩:=takeP_some ht h1
   refine takesP_ok r q1.1 q1.2 q h a3 (fun x hx => h2 x (List.mem_cons_of_mem _ hx)) fun e he => ?_
   rcases a4 e he with h | h
   ·exact h3 e h
   ·exact Nat.le_trans h (h2 b (List.mem_cons_self ..))
theorem logL_ok {D:Dsk} (ok:D.Ok) (p:Nm) {base:Nat} {data:List UInt8} (hb:base ≤ 1099511627776) (hd:data.length ≤ 1073741824):Led.Ok ⟨base,data,(logL D p base).2.2,false⟩:=by
 have key:base + (logL D p base).2.2.length ≤ 1099511627776 ∧ ∀ e ∈ (logL D p base).2.2,e.length ≤ 1073741824:=by
  unfold logL
  cases hx:tLook D.fs (logN p) with
  | none => exact ⟨by simp; omega,by simp⟩
  | some x =>
   have h1:=dRead_len ok (logN p)
   have hrd:dRead D (logN p) = (x.b,0):=by unfold dRead; rw [hx]
   rw [hrd] at h1
   have h2:=scanL_len' (x.b.length + 1) x.b
   simp only
   unfold logOf
   cases ht:takesP base (-1) [] (scanL (x.b.length + 1) x.b).1 with
   | none => exact ⟨by simp; omega,by simp⟩
   | some q =>
    have h3:=takesP_ok (N:=1073741824) _ _ _ _ ht (by simp; omega) (fun r hr => by have:=h2.2 r hr; simp only at h1; omega) (by simp)
    simp only
    unfold logFin
    split
    ·exact h3
    ·exact h3
 exact ⟨key.1,hd,key.2⟩
theorem imgL_ok {D:Dsk} (ok:D.Ok) (p:Nm) (h:(imgL D p).2.2 = 0):(imgL D p).1 ≤ 1099511627776 ∧ (imgL D p).2.1.length ≤ 1073741824:=by
 have h1:=kLoad_len ok (imgN p)
 have hr:(numRow (kLoad D (imgN p)).1).2.2.length ≤ (kLoad D (imgN p)).1.length:=by
  have h1:=bytL_len (numL (kLoad D (imgN p)).1 false).2.1 (numL (kLoad D (imgN p)).1 false).2.2
  have h2:=numL_len (kLoad D (imgN p)).1 false
  exact Nat.le_trans h1 h2
 unfold imgL at h ⊢
 by_cases a1:(kLoad D (imgN p)).2 = 7
 ·simp only [if_pos a1]; exact ⟨Nat.zero_le _,by simp⟩
 ·simp only [if_neg a1] at h ⊢
  by_cases a2:(kLoad D (imgN p)).2 ≠ 0
  ·simp only [if_pos a2]; exact ⟨Nat.zero_le _,by simp⟩
  ·simp only [if_neg a2] at h ⊢
   by_cases a3:(numRow (kLoad D (imgN p)).1).1 = false ∨ 1099511627776 < (numRow (kLoad D (imgN p)).1).2.1
   ·simp only [if_pos a3] at h; cases h
   ·exact ⟨by omega,by omega⟩
/-- What is left to be done of Open. -/
def stage (p:Nm):Nat → Dsk → Led → Dsk × Nat × Led
 | 0,D,_ => opn2 (rmvs D [shadow (imgN p)]) p
 | 1,D,_ => opn3 D p (imgL D p)
 | 2,D,L => ((logL D p L.base).1,(logL D p L.base).2.1,{ L with ents:=(logL D p L.base).2.2 })
 | _,D,L => (D,0,L)
def Led.zero:Led:=⟨0,[],[],false⟩
def OpenR (w w':World) (v:Value) (g:Nat) (p:Nm) (R:Dsk × Nat × Led) (F:Nat → Prop):Prop :=
 ∃ F',Dk w' g R.1 F' ∧ Gr F F' w w' ∧ Kp F w w' ∧ ((R.2.1 ≠ 0 ∧ v = .tuple #[.pointer none,i64 R.2.1]) ∨ (R.2.1 = 0 ∧ ∃ l G' V',v = .tuple #[.pointer (some ⟨l,0,none⟩),i64 0] ∧ LS w' l g p R.1 R.2.2 F' G' V' ∧ R.2.2.Ok ∧ Gr F V' w w'))
/-- What opening comes to, with blocks that the ledger is to lie off. -/
def OpenRE (w w':World) (v:Value) (g:Nat) (p:Nm) (R:Dsk × Nat × Led) (F E:Nat → Prop):Prop :=
 ∃ F',Dk w' g R.1 F' ∧ Gr F F' w w' ∧ Kp F w w' ∧ ((R.2.1 ≠ 0 ∧ v = .tuple #[.pointer none,i64 R.2.1]) ∨ (R.2.1 = 0 ∧ ∃ l G' V',v = .tuple #[.pointer (some ⟨l,0,none⟩),i64 0] ∧ LS w' l g p R.1 R.2.2 F' G' V' ∧ R.2.2.Ok ∧ Gr (fun k => F k ∨ E k) V' w w' ∧ (∀ k,E k → V' k) ∧ ∀ k,G' k → w.heap.size ≤ k))
theorem open_specE (E:Nat → Prop) (g:Nat) (p:Nm) (D:Dsk) (F:Nat → Prop) (w:World) (h:Dk w g D F) (hE:∀ k,E k → k < w.heap.size) (h1:1 ≤ p.length) (h2:p.length ≤ 20) :
  Cal Tryz.prog 59 #[.pointer (some ⟨g,0,none⟩),str p] w fun v w' => OpenRE w w' v g p (opn D p) F E:=by
 refine enter Tryz.mixed Tryz.func59 rfl (by kernel_rfl) ?_
 have h1':¬ (p.length:Int) < 1:=by omega
 have h1n:¬ p.length < 1:=by omega
 have h2':¬ (20:Int) < (p.length:Int):=by omega
 have h2n:¬ 20 < p.length:=by omega
 simp -dsimp [go_sem,h1',h1n,h2',h2n]
 have kl:Nw w (w.alloc (.cells #[.pointer (some ⟨g,0,none⟩),str p,i64 0,.slice none 0 0,.slice none 0 0,.bool false] 170)):=(Kp.refl _ _).alloc _
 have hb0:=Blk.new w 170 #[.pointer (some ⟨g,0,none⟩),str p,i64 0,.slice none 0 0,.slice none 0 0,.bool false]
 obtain ⟨l,hl⟩:∃ l,l = w.heap.size:=⟨_,rfl⟩
 rw [← hl] at hb0 ⊢
 have hls:(w.alloc (.cells #[.pointer (some ⟨g,0,none⟩),str p,i64 0,.slice none 0 0,.slice none 0 0,.bool false] 170)).heap.size = l + 1:=by simp [hl]
 have hFl:∀ k,F k → k < l:=fun k hk => by have:=h.lt k hk; omega
 have hFE:∀ k,F k ∨ E k → k < l:=fun k hk => hk.elim (hFl k) fun e => by have:=hE k e; omega
 have h0:LS (w.alloc (.cells #[.pointer (some ⟨g,0,none⟩),str p,i64 0,.slice none 0 0,.slice none 0 0,.bool false] 170)) l g p D Led.zero F (At l) (fun k => (F k ∨ E k) ∨ k = l) :=
  ⟨h.nw kl,⟨none,0,none,0,[],hb0,Rd.nil _ _,(fun a ha => by cases ha),Nat.le_refl _,Ow.nil _ _ _,RV.nil _ _,by simp [Off],fun k hk => hk.elim id fun e => e.elim,fun k e => .inr e,fun k hk => hk.elim (fun e => by have:=hFE k e; omega) fun e => by omega⟩,fun k hk => .inl (.inl hk),fun k hk (e:k = l) => by have:=hFl k hk; omega⟩
 generalize w.alloc (.cells #[.pointer (some ⟨g,0,none⟩),str p,i64 0,.slice none 0 0,.slice none 0 0,.bool false] 170) = wl at *
 have kf:Nw wl (wl.alloc (.cells #[.func (.func 105) #[.pointer (some ⟨l,0,none⟩)] #[],.func (.func 106) #[.pointer (some ⟨l,0,none⟩)] #[],.func (.func 107) #[.pointer (some ⟨l,0,none⟩)] #[]] 103)):=(Kp.refl _ _).alloc _
 have hf0:=Blk.new wl 103 #[.func (.func 105) #[.pointer (some ⟨l,0,none⟩)] #[],.func (.func 106) #[.pointer (some ⟨l,0,none⟩)] #[],.func (.func 107) #[.pointer (some ⟨l,0,none⟩)] #[]]
 obtain ⟨fb,hfb⟩:∃ fb,fb = l + 1:=⟨_,rfl⟩
 rw [hls,← hfb] at hf0
 rw [← hfb]
 have h1:=h0.nw kf
 have kw:Nw w _:=kl.nw kf
 have hfs:=hf0.lt
 generalize wl.alloc (.cells #[.func (.func 105) #[.pointer (some ⟨l,0,none⟩)] #[],.func (.func 106) #[.pointer (some ⟨l,0,none⟩)] #[],.func (.func 107) #[.pointer (some ⟨l,0,none⟩)] #[]] 103) = w0 at *
 have hw1:IntKind.i64.wrap 1 = 1:=w64 (by omega) (by omega)
 have hw2:IntKind.i64.wrap 2 = 2:=w64 (by omega) (by omega)
 have hw3:IntKind.i64.wrap 3 = 3:=w64 (by omega) (by omega)
 have ok0:Led.zero.Ok:=⟨by simp [Led.zero],by simp [Led.zero],by simp [Led.zero]⟩
 have hst:opn D p = stage p 0 D Led.zero:=rfl
 rw [hst]
 refine loop [4,5,8,9,34,35,36,37,38,39,40,41,42,43] (by kernel_rfl)
  (fun f w' => Box1 (fun a w' => ∃ (i:Nat) (D1:Dsk) (L1:Led) (F1 G1 V1:Nat → Prop),a = i64 i ∧ i ≤ 3 ∧ stage p 0 D Led.zero = stage p i D1 L1 ∧ (i ≤ 1 → L1 = Led.zero) ∧ (i ≤ 2 → L1.ents = []) ∧ L1.Ok ∧ LS w' l g p D1 L1 F1 G1 V1 ∧ Gr F F1 w w' ∧ Gr (fun k => F k ∨ E k) V1 w w' ∧ (∀ k,E k → V1 k) ∧ (∀ k,G1 k → w.heap.size ≤ k) ∧ Kp F w w' ∧ ¬ V1 fb ∧ Blk w' fb 103 #[.func (.func 105) #[.pointer (some ⟨l,0,none⟩)] #[],.func (.func 106) #[.pointer (some ⟨l,0,none⟩)] #[],.func (.func 107) #[.pointer (some ⟨l,0,none⟩)] #[]]) (f 34) w') (fun f _ => 3 - (intOf (f 34)).toNat)
  ⟨0,D,Led.zero,F,At l,_,rfl,by omega,rfl,fun _ => rfl,fun _ => rfl,ok0,h1,fun k hk => .inl hk,fun k hk => hk.imp id fun e => ⟨by omega,by omega⟩,fun k hk => .inl (.inr hk),fun k (e:k = l) => by omega,Nw.kp kw F,fun hk => hk.elim (fun e => by have:=hFE fb e; omega) fun e => by omega,hf0⟩ ?_
 clear h0 h1 hf0 hfs
 rintro f w1 ⟨i,D1,L1,F1,G1,V1,f34,hi,hst1,hz,hes,ok1,hL,gF,gV,hEV,hGn,hK,hVf,hfb1⟩
 have hfs:=hfb1.lt
 match i,hi with
 | 0,_ =>
  have f34:f 34 = i64 0:=f34
  have c:=hfb1.cell 0
  simp -dsimp [go_sem,f34,c]
  refine call (clears_spec l g p D1 L1 F1 G1 V1 w1 hL h2) ?_
  rintro v w2 ⟨rfl,F2,hD2,hG2,hK2⟩
  have hz:=hz (by omega)
  subst hz
  obtain ⟨hL2,hV2⟩:=hL.disk hD2 hG2 hK2
  have hes':stage p 0 D1 Led.zero = if (rmvs D1 [shadow (imgN p)]).2 ≠ 0 then ((rmvs D1 [shadow (imgN p)]).1,(rmvs D1 [shadow (imgN p)]).2,⟨0,[],[],false⟩) else opn3 (rmvs D1 [shadow (imgN p)]).1 p (imgL (rmvs D1 [shadow (imgN p)]).1 p):=rfl
  rw [hes'] at hst1
  obtain ⟨R,hR⟩:∃ R,R = rmvs D1 [shadow (imgN p)]:=⟨_,rfl⟩
  rw [← hR] at hst1 hD2 hL2 ⊢
  obtain ⟨D2,e2⟩:=R
  simp only at hst1 hD2 hL2 ⊢
  have gF2:=Gr.trans gF hG2 hK.size hK2.size
  have kF2:=Kp.gr hK gF hK2
  by_cases he:e2 = 0
  ·subst he
   rw [if_neg (fun h => h rfl)] at hst1
   simp -dsimp [go_sem,f34]
   exact ⟨⟨1,D2,Led.zero,F2,G1,_,rfl,by omega,hst1,fun _ => rfl,fun _ => rfl,ok1,hL2,gF2,Gr.trans gV hV2 hK.size hK2.size,fun k hk => .inl (hEV k hk),hGn,kF2,fun e => e.elim hVf fun e => (hG2 fb e).elim (fun e => hVf (hL.fv fb e)) fun e => by omega,hfb1.kp hK2 fun e => hVf (hL.fv fb e)⟩,by simp [intOf,hw1,hw2,hw3]⟩
  ·rw [if_pos he] at hst1
   have he':((e2:Int) != 0) = true:=by simp; omega
   simp -dsimp [go_sem,he',he]
   rw [hst1]
   exact ⟨F2,hD2,gF2,kF2,.inl ⟨he,rfl⟩⟩
 | 1,_ =>
  have f34:f 34 = i64 1:=f34
  have c:=hfb1.cell 1
  have hz:=hz (by omega)
  subst hz
  simp -dsimp [go_sem,f34,c]
  refine call (image_spec l g p D1 F1 G1 V1 w1 hL h2) ?_
  rintro v w2 ⟨rfl,hL2,hK2⟩
  have hes':stage p 1 D1 Led.zero = if (imgL D1 p).2.2 ≠ 0 then (D1,(imgL D1 p).2.2,⟨0,[],[],false⟩) else ((logL D1 p (imgL D1 p).1).1,(logL D1 p (imgL D1 p).1).2.1,⟨(imgL D1 p).1,(imgL D1 p).2.1,(logL D1 p (imgL D1 p).1).2.2,false⟩):=rfl
  rw [hes'] at hst1
  have hio:=imgL_ok hL.dk.ok p
  have hGl:=hL.lg.gl
  have hL3:=hL.own hL2 (fun k hk => .inl hk) (fun k hk => hk) (hK2.mono fun k _ (e:k = l) => e ▸ hGl)
  have kF2:Kp F w w2:=hK.trans hK2 fun k hk (e:k = l) => by omega
  obtain ⟨R,hR⟩:∃ R,R = imgL D1 p:=⟨_,rfl⟩
  rw [← hR] at hst1 hio hL3 ⊢
  obtain ⟨bs,dt,e2⟩:=R
  simp only at hst1 hio hL3 ⊢
  by_cases he:e2 = 0
  ·subst he
   rw [if_neg (fun h => h rfl)] at hst1
   obtain ⟨i1,i2⟩:=hio rfl
   simp -dsimp [go_sem,f34]
   exact ⟨⟨2,D1,⟨bs,dt,[],false⟩,F1,G1,V1,rfl,by omega,hst1,fun e => by omega,fun _ => rfl,⟨by simpa using i1,i2,by simp⟩,hL3,Gr.wide gF (Nat.le_refl _) hK2.size,Gr.wide gV (Nat.le_refl _) hK2.size,hEV,hGn,kF2,hVf,hfb1.kp hK2 fun (e:fb = l) => by omega⟩,by simp [intOf,hw1,hw2,hw3]⟩
  ·rw [if_pos he] at hst1
   have he':((e2:Int) != 0) = true:=by simp; omega
   simp -dsimp [go_sem,he',he]
   rw [hst1]
   exact ⟨F1,hL3.dk,Gr.wide gF (Nat.le_refl _) hK2.size,kF2,.inl ⟨he,rfl⟩⟩
 | 2,_ =>
  have f34:f 34 = i64 2:=f34
  have c:=hfb1.cell 2
  have hes:=hes (by omega)
  simp -dsimp [go_sem,f34,c]
  refine call (log_specT l g p D1 L1 F1 G1 V1 w1 hL h2 ok1 hes) ?_
  rintro v w2 ⟨rfl,⟨F2,V2,hD2,gF2,gV2,hVV2,hFV2,hL2⟩,hK2⟩
  have hes':stage p 2 D1 L1 = ((logL D1 p L1.base).1,(logL D1 p L1.base).2.1,{ L1 with ents:=(logL D1 p L1.base).2.2 }):=rfl
  rw [hes'] at hst1
  have hlo:=logL_ok hL.dk.ok p (base:=L1.base) (data:=L1.data) (by have:=ok1.last; omega) ok1.data
  have kF2:Kp F w w2:=hK.trans hK2 fun k hk hv => hv.elim (fun hv => (gF k hv).elim id fun e => by omega) fun hv => by have:=hGn k hv; omega
  have gF2':=Gr.trans gF gF2 hK.size hK2.size
  have gV2':=Gr.trans gV gV2 hK.size hK2.size
  obtain ⟨R,hR⟩:∃ R,R = logL D1 p L1.base:=⟨_,rfl⟩
  rw [← hR] at hst1 hD2 hL2 hlo ⊢
  obtain ⟨D2,e2,es⟩:=R
  simp only at hst1 hD2 hL2 hlo ⊢
  by_cases he:e2 = 0
  ·subst he
   obtain ⟨G2,hL3,hGG⟩:=hL2 rfl
   simp -dsimp [go_sem,f34]
   exact ⟨⟨3,D2,{ L1 with ents:=es },F2,G2,V2,rfl,by omega,hst1,fun e => by omega,fun e => by omega,⟨hlo.1,hlo.2,hlo.3⟩,hL3,gF2',gV2',fun k hk => hVV2 k (hEV k hk),fun k hk => by
    by_cases hl1:k < w1.heap.size
    ·exact hGn k (hGG k hk hl1)
    ·have:=hK.size; omega,kF2,fun e => (gV2 fb e).elim hVf fun e => by omega,hfb1.kp hK2 fun e => hVf (e.elim (hL.fv fb) (hL.lg.gv fb))⟩,by simp [intOf,hw1,hw2,hw3]⟩
  ·have he':((e2:Int) != 0) = true:=by simp; omega
   simp -dsimp [go_sem,he',he]
   rw [hst1]
   exact ⟨F2,hD2,gF2',kF2,.inl ⟨he,rfl⟩⟩
 | 3,_ =>
  have f34:f 34 = i64 3:=f34
  simp -dsimp [go_sem,f34]
  rw [hst1]
  exact ⟨F1,hL.dk,gF,hK,.inr ⟨rfl,l,G1,V1,rfl,hL,ok1,gV,hEV,hGn⟩⟩
theorem open_spec (g:Nat) (p:Nm) (D:Dsk) (F:Nat → Prop) (w:World) (h:Dk w g D F) (h1:1 ≤ p.length) (h2:p.length ≤ 20) :
  Cal Tryz.prog 59 #[.pointer (some ⟨g,0,none⟩),str p] w fun v w' => OpenR w w' v g p (opn D p) F:=by
 refine (open_specE (fun _ => False) g p D F w h (fun _ h => h.elim) h1 h2).mono ?_
 rintro v w' ⟨F',a1,a2,a3,a4⟩
 refine ⟨F',a1,a2,a3,a4.imp id ?_⟩
 rintro ⟨b1,l,G',V',b2,b3,b4,b5,_⟩
 exact ⟨b1,l,G',V',b2,b3,b4,fun k hk => (b5 k hk).imp (fun h => h.elim id fun h => h.elim) id⟩
/-- What a step may turn. -/
structure Ch (w w1:World) (F F1 G G1 V V1:Nat → Prop):Prop where
 gF:Gr F F1 w w1
 gG:Gr G G1 w w1
 gV:Gr V V1 w w1
 vv:∀ k,V k → V1 k
 kp:Kp (fun k => F k ∨ G k) w w1
section
variable {w w1 w2:World} {F F1 F2 G G1 G2 V V1 V2:Nat → Prop} {l g:Nat} {p:Nm} {D D1:Dsk} {L L1:Led}
theorem Ch.nw (k:Nw w w1):Ch w w1 F F G G V V:=⟨fun _ h => .inl h,fun _ h => .inl h,fun _ h => .inl h,fun _ h => h,Nw.kp k _⟩
theorem Ch.trans (a:Ch w w1 F F1 G G1 V V1) (b:Ch w1 w2 F1 F2 G1 G2 V1 V2):Ch w w2 F F2 G G2 V V2 :=
 ⟨Gr.trans a.gF b.gF a.kp.size b.kp.size,Gr.trans a.gG b.gG a.kp.size b.kp.size,Gr.trans a.gV b.gV a.kp.size b.kp.size,fun k h => b.vv k (a.vv k h),a.kp.trans b.kp fun k hk h => h.elim (fun h => (a.gF k h).elim .inl fun e => by omega) fun h => (a.gG k h).elim .inr fun e => by omega⟩
theorem Ch.disk (h:LS w l g p D L F G V) (hD:Dk w1 g D1 F1) (hG:Gr F F1 w w1) (hK:Kp F w w1):LS w1 l g p D1 L F1 G (fun i => V i ∨ F1 i) ∧ Ch w w1 F F1 G G V (fun i => V i ∨ F1 i):=by
 obtain ⟨a,b⟩:=h.disk hD hG hK
 exact ⟨a,hG,fun _ h => .inl h,b,fun k h => .inl h,hK.mono fun _ _ h => .inl h⟩
theorem Ch.own (h:LS w l g p D L F G V) (hL:Lg w1 l g p L1 G1 V1) (hG:Gr G G1 w w1) (hV:Gr V V1 w w1) (vv:∀ i,V i → V1 i) (hK:Kp G w w1):LS w1 l g p D L1 F G1 V1 ∧ Ch w w1 F F G G1 V V1 :=
 ⟨h.own hL hG vv hK,fun _ h => .inl h,hG,hV,vv,hK.mono fun _ _ h => .inr h⟩
end
def ChR (w w':World) (l g:Nat) (p:Nm) (D':Dsk) (L':Led) (F G V:Nat → Prop):Prop:=∃ F' G' V',LS w' l g p D' L' F' G' V' ∧ Ch w w' F F' G G' V V'
theorem lApp_ok {L:Led} (ok:L.Ok) (D:Dsk) (p:Nm) (b:List UInt8):Led.Ok (lApp D p L b).2.1:=by
 have h1:=ok.last
 unfold lApp
 split
 ·exact ok
 ·split
  ·exact ok
  ·rename_i h2 h3
   unfold apL
   split
   ·exact ⟨ok.last,ok.data,ok.ents⟩
   ·have hl:L.last = L.base + L.ents.length:=rfl
    refine ⟨by simp only [List.length_append,List.length_singleton]; omega,ok.data,fun e he => ?_⟩
    rcases List.mem_append.1 he with he | he
    ·exact ok.ents e he
    ·rw [List.mem_singleton.1 he]; omega
theorem Wr.zero (w:World):Wr (w.alloc (.cells #[.slice none 0 0] 70)) w.heap.size [] (At w.heap.size) :=
 ⟨none,0,Blk.new _ _ _,Ow.nil _ _ _,by simp [Off],fun k hk => hk.elim id fun e => e.elim,fun k (e:k = w.heap.size) => by simp [e]⟩
/-- A number and a row, written. -/
theorem entry_eq (n:Nat) (b:List UInt8) (hn:n ≤ 4611686018427387904):([] ++ numsB [(n:Int)]) ++ rowsB [b] = numB n ++ rowB b:=by
 have:clampN (n:Int) = n:=by unfold clampN; omega
 simp [numsB,rowsB,this]
theorem entry_len (n:Nat) (b:List UInt8) (hn:n ≤ 4611686018427387904) (hb:b.length ≤ 1073741824):(numB n ++ rowB b).length ≤ b.length + 18:=by
 have h1:=numB_len9 hn
 have h2:=rowB_len b (by omega)
 rw [List.length_append]
 omega
theorem dies0_spec (l g:Nat) (p:Nm) (L:Led) (G V:Nat → Prop) (w:World) (h:Lg w l g p L G V) (hd:L.dead = false) :
  Cal Tryz.prog 101 #[.pointer (some ⟨l,0,none⟩),.int .i64 0] w fun v w' => v = .int .i64 0 ∧ Lg w' l g p L G V ∧ Kp (At l) w w':=by
 have h1:=dies_spec 0 l g p L G V w h
 have edd:({ L with dead:=L.dead || decide ((0:Nat) ≠ 0) }:Led) = L:=by rw [hd]; cases L; simp_all
 rw [edd] at h1
 exact h1
theorem brs_one1 {w:World} {g:Nat} {B:Option Addr} {d:Nat} {p:List UInt8} {S:Nat → Prop} {t:TypeId} (h:Blk w g t #[.slice B p.length d]) (hg:¬ S g) (hr:Rd w B (p.map u8)) (hB:Ofl B (p.map u8) S) (hd:p.length ≤ d):Brs w (some ⟨g,0,none⟩) [p] S :=
 (RV.one hr hB hd).brs (Rd.of_heap h) fun a ha _ => by cases ha; exact hg
theorem lapp_spec (l g:Nat) (p:Nm) (D:Dsk) (L:Led) (F G V:Nat → Prop) (b:List UInt8) (X:Option Addr) (x:Nat) (w:World) (h:LS w l g p D L F G V) (hp:p.length ≤ 20) (ok:L.Ok) (hr:Rd w X (b.map u8)) (hX:Ofl X (b.map u8) V) (hx:b.length ≤ x) (hb:b.length ≤ 140737488355328) :
  Cal Tryz.prog 57 #[.pointer (some ⟨l,0,none⟩),.slice X b.length x] w fun v w' => v = .tuple #[i64 (lApp D p L b).2.2.1,i64 (lApp D p L b).2.2.2] ∧ ChR w w' l g p (lApp D p L b).1 (lApp D p L b).2.1 F G V:=by
 have e0:lApp D p L b = if L.dead then (D,L,0,9) else if 65536 < b.length ∨ 1099511627776 ≤ L.last then (D,L,0,5) else
  apL L (apS (dAppend D (logN p) (entB (L.last + 1) b)) (logN p)) b:=rfl
 have c5:=h.lg.c5
 have hlN:(logN p).length = p.length + 4:=by simp [logN]
 have hsN:(logN p).length ≤ 9223372036854775807:=by omega
 have hok:=ok.last
 have hlast:L.last = L.base + L.ents.length:=rfl
 refine enter Tryz.mixed Tryz.func57 rfl (by kernel_rfl) ?_
 cases hd:L.dead with
 | true =>
  rw [hd] at c5
  rw [hd,if_pos rfl] at e0
  rw [e0]
  simp -dsimp [go_sem,c5]
  exact ⟨F,G,V,h,Ch.nw (Kp.refl _ _)⟩
 | false =>
  rw [hd] at c5
  rw [hd,if_neg (by simp)] at e0
  by_cases hbig:65536 < b.length
  ·rw [if_pos (.inl hbig)] at e0
   have hbig':(65536:Int) < (b.length:Int):=by omega
   rw [e0]
   simp -dsimp [go_sem,c5,hbig,hbig']
   exact ⟨F,G,V,h,Ch.nw (Kp.refl _ _)⟩
  have hbig':¬ (65536:Int) < (b.length:Int):=by omega
  simp -dsimp [go_sem,c5,hbig,hbig']
  refine call (last_spec l g p L G V w h.lg ok) ?_
  rintro v w1 ⟨rfl,hk1⟩
  by_cases hfull:1099511627776 ≤ L.last
  ·rw [if_pos (.inr hfull)] at e0
   have hfull':(1099511627776:Int) ≤ (L.last:Int):=by omega
   rw [e0]
   simp -dsimp [go_sem,hfull,hfull']
   exact ⟨F,G,V,h.nw hk1,Ch.nw hk1⟩
  rw [if_neg (by omega)] at e0
  have hfull':¬ (1099511627776:Int) ≤ (L.last:Int):=by omega
  simp -dsimp [go_sem,hfull,hfull']
  have kW:Nw w1 (w1.alloc (.cells #[.slice none 0 0] 70)):=(Kp.refl _ _).alloc _
  have hW0:=Wr.zero w1
  obtain ⟨q,hq⟩:∃ q,q = w1.heap.size:=⟨_,rfl⟩
  rw [← hq] at hW0 ⊢
  have h2:=(h.nw hk1).nw kW
  have n2:=hk1.nw kW
  have hqw:w.heap.size ≤ q:=by rw [hq]; exact hk1.size
  generalize w1.alloc (.cells #[.slice none 0 0] 70) = w2 at *
  refine call (last_spec l g p L G V w2 h2.lg ok) ?_
  rintro v w3 ⟨rfl,hk3⟩
  have hw1:IntKind.i64.wrap ((L.last:Int) + 1) = ((L.last + 1:Nat):Int):=by rw [w64 (by omega) (by omega)]; omega
  obtain ⟨m,hm⟩:∃ m,m = L.last + 1:=⟨_,rfl⟩
  rw [← hm] at hw1 e0
  have hW3:=hW0.kp_ hk3 fun _ _ h => h
  have n3:=n2.nw hk3
  simp -dsimp [go_sem,hw1]
  have kb:Nw w3 (w3.alloc (.cells #[i64 m] 3)):=(Kp.refl _ _).alloc _
  have hW3b:=hW3.kp_ kb fun _ _ h => h
  refine call (wNums_spec q [] [(m:Int)] (At q) (some ⟨w3.heap.size,0,none⟩) 1 _ hW3b (Rd.fresh rfl rfl) (fun a ha _ (e:a.block = q) => by cases ha; have h1:=hW3.lt_ q rfl; have e:w3.heap.size = q:=e; omega) (by simp)) ?_
  rintro v w4 ⟨rfl,F4,hW4,hG4,hK4⟩
  have n4:Nw w w4:=(n3.nw kb).at_ hK4 fun k (e:k = q) => by omega
  have hF4:∀ k,F4 k → w.heap.size ≤ k:=fun k hk => by
   rcases hG4 k hk with e | e
   ·have e:k = q:=e
    omega
   ·exact Nat.le_trans (n3.nw kb).size e.1
  simp -dsimp [go_sem]
  have kc:Nw w4 (w4.alloc (.cells #[.slice X b.length x] 23)):=(Kp.refl _ _).alloc _
  have hW4b:=hW4.kp_ kc fun _ _ h => h
  have hX4:Ofl X (b.map u8) F4:=hr.ofl hF4
  refine call (wBytes_spec q _ [b] F4 (some ⟨w4.heap.size,0,none⟩) 1 _ hW4b (brs_one1 (Blk.fresh rfl) (fun e => by have:=hW4.lt_ _ e; omega) (hr.nw (n4.nw kc)) hX4 hx) (by
   have:=numsB_len [(m:Int)]
   simp only [List.length_append,List.length_nil,List.length_singleton] at this ⊢
   simp [load]; omega)) ?_
  rintro v w5 ⟨rfl,F5,hW5,hG5,hK5⟩
  have n5:Nw w w5:=(n4.nw kc).at_ hK5 hF4
  have hm62:m ≤ 4611686018427387904:=by omega
  rw [entry_eq m b hm62] at hW5
  have hcl:=entry_len m b hm62 (by omega)
  obtain ⟨C,hC⟩:∃ C,C = numB m ++ rowB b:=⟨_,rfl⟩
  have een:entB m b = recL C:=by rw [hC]; rfl
  rw [← hC] at hW5 hcl
  rw [een] at e0
  simp -dsimp [go_sem]
  refine call (wOut_spec q C F5 w5 hW5 (by omega)) ?_
  rintro v w6 ⟨hB6,hk6⟩
  obtain ⟨A6,c6,rfl,ho6,hA6⟩:=id hB6
  have n6:=n5.nw hk6
  simp -dsimp [go_sem]
  have kd:Nw w6 (w6.alloc (.cells #[.slice A6 C.length c6] 23)):=(Kp.refl _ _).alloc _
  have hen:=encode_spec [C] (some ⟨w6.heap.size,0,none⟩) 1 (w6.alloc (.cells #[.slice A6 C.length c6] 23)) (fun _ => False) (brs_one1 (Blk.fresh rfl) (fun h => h) (ho6.nw kd).rd (fun _ _ _ h => h) ho6.2.1) (by simp) (by simp) (by simp; omega)
  rw [show ([C]:List (List UInt8)).flatten = C by simp] at hen
  refine call hen ?_
  rintro v w7 ⟨hk7,(⟨hbad,_⟩ | ⟨_,u,rfl,hB7⟩)⟩
  ·omega
  have n7:=(n6.nw kd).nw hk7
  have hRl:=recL_len C
  obtain ⟨R,hR⟩:∃ R,R = recL C:=⟨_,rfl⟩
  rw [← hR] at hB7 e0 hRl
  obtain ⟨A7,c7,rfl,ho7,hA7⟩:=id hB7
  obtain ⟨rl,hrl⟩:∃ rl,rl = R.length:=⟨_,rfl⟩
  have h7:=h.nw n7
  have hF7:∀ k,F k → k < w7.heap.size:=h7.dk.lt
  simp -dsimp [go_sem]
  have q0:=LS.c0' h7
  have kq:Kp F w7 (World.drew w7):=(Kp.refl _ _).drew
  have kqN:Nw w7 (World.drew w7):=(Kp.refl _ _).drew
  have hqF:=LS.lF h7
  have q0d:=kq.cell_some q0 hqF
  have q1d:=kqN.cell_some (LS.c1' h7) fun h => h
  have hap:∀ (W:World),Nw w7 W → Blk W w7.heap.size 23 #[.slice A7 R.length c7] → Cal Tryz.prog 98 #[.pointer (some ⟨g,0,none⟩),str (logN p),.slice (some ⟨w7.heap.size,0,none⟩) 1 1] W fun v w' => v = i64 (dAppend D (logN p) R).2 ∧ ∃ F',Dk w' g (dAppend D (logN p) R).1 F' ∧ Gr F F' W w' ∧ Kp F W w':=fun W k hb => by
   have:=dappend_spec (logN p) [R] (some ⟨w7.heap.size,0,none⟩) 1 g D F (fun _ => False) W (h7.dk.nw k) (brs_one1 hb (fun h => h) (ho7.nw k).rd (fun _ _ _ h => h) ho7.2.1) (by simp) (by simp) (by simp; omega) hsN
   rwa [show ([R]:List (List UInt8)).flatten = R by simp] at this
  refine draw_cut (.take 0 (.take 1 (.take 2 (.take 3 (.take 4 (.take 6 (.alt 5 (.alt 7 (.alt 8 (.take 9 .done) .stop) .stop) (.alt 7 (.alt 5 (.alt 8 (.take 9 .done) .stop) .stop) .stop)))))))) (fun s w' => s 0 = .pointer (some ⟨l,0,none⟩) ∧ s 1 = .slice X b.length x ∧ s 8 = i64 (dAppend D (logN p) R).2 ∧ ∃ F',Dk w' g (dAppend D (logN p) R).1 F' ∧ Gr F F' w7 w' ∧ Kp F w7 w') (by kernel_rfl) (fun wz => Kp F w7 wz) kq ?_ ?_
  ·simp -dsimp [go_sem,q0d]
   refine ⟨fun wz hz => by simp [hz.cell_some q0 hqF],?_⟩
   have kb7:Nw w7 (w7.alloc (.cells #[.slice A7 R.length c7] 23)).drew:=((Kp.refl _ _).alloc _).drew
   have hb7:Blk (w7.alloc (.cells #[.slice A7 R.length c7] 23)).drew w7.heap.size 23 #[.slice A7 R.length c7]:=(Blk.new _ _ _).nw ((Kp.refl _ _).drew)
   have q1b:=kb7.cell_some h7.c1' fun h => h
   have hk7b:=Nw.kp kb7 F
   refine ⟨?_,?_⟩
   ·refine call (logname_spec l p w7.drew q1d hp) ?_
    rintro v wq ⟨rfl,rfl⟩
    refine ⟨kq,?_⟩
    simp -dsimp [go_sem]
    refine ⟨hk7b,?_⟩
    refine call (hap _ kb7 hb7) ?_
    rintro v w8 ⟨rfl,F8,hD8,hG8,hK8⟩
    have hKF:=hk7b.trans hK8 fun _ _ h => h
    refine ⟨hKF,?_⟩
    simp -dsimp [go_sem]
    exact ⟨F8,hD8,Gr.wide hG8 kb7.size (Nat.le_refl _),hKF⟩
   ·refine ⟨hk7b,?_⟩
    refine call (logname_spec l p _ q1b hp) ?_
    rintro v wq ⟨rfl,rfl⟩
    refine ⟨hk7b,?_⟩
    simp -dsimp [go_sem]
    refine call (hap _ kb7 hb7) ?_
    rintro v w8 ⟨rfl,F8,hD8,hG8,hK8⟩
    have hKF:=hk7b.trans hK8 fun _ _ h => h
    refine ⟨hKF,?_⟩
    simp -dsimp [go_sem]
    exact ⟨F8,hD8,Gr.wide hG8 kb7.size (Nat.le_refl _),hKF⟩
  ·rintro s8 w8 ⟨f0,f1,f8,F8,hD8,hG8,hK8⟩
   obtain ⟨h8,ch8⟩:=Ch.disk h7 hD8 hG8 hK8
   have cw8:=(Ch.nw n7:Ch w w7 F F G G V V).trans ch8
   have hRX:Rd w8 X (b.map u8):=(hr.nw n7).kp hK8 (fun a ha hx hf => hX a ha hx (h.fv _ hf))
   obtain ⟨E,hE⟩:∃ E,E = dAppend D (logN p) R:=⟨_,rfl⟩
   rw [← hE] at e0 h8 f8
   obtain ⟨D8,e8⟩:=E
   simp only at h8 f8
   by_cases h0:e8 = 0
   ·subst h0
    have ea:apS (D8,0) (logN p) = dEach fSync D8 [logN p]:=by unfold apS; rw [if_neg (fun h => h rfl)]
    rw [ea] at e0
    simp -dsimp [go_sem,f8]
    clear q0 kq kqN hqF q0d q1d
    have q0:=LS.c0' h8
    have kq:Kp F8 w8 (World.drew w8):=(Kp.refl _ _).drew
    have kqN:Nw w8 (World.drew w8):=(Kp.refl _ _).drew
    have hqF:=LS.lF h8
    have q0d:=kq.cell_some q0 hqF
    have q1d:=kqN.cell_some (LS.c1' h8) fun h => h
    refine draw (.take 0 (.take 1 (.take 2 (.take 3 (.take 4 (.alt 5 (.alt 6 (.alt 7 (.take 8 .done) .stop) .stop) .stop)))))) (by kernel_rfl) (fun wz => Kp F8 w8 wz) kq ?_
    simp -dsimp [go_sem,f0,q0d]
    refine ⟨fun wz hz => by simp [hz.cell_some q0 hqF],?_⟩
    refine call (logname_spec l p w8.drew q1d hp) ?_
    rintro v wq ⟨rfl,rfl⟩
    refine ⟨kq,?_⟩
    simp -dsimp [go_sem]
    have kb8:Nw w8 (w8.alloc (.cells #[str (logN p)] 9)).drew:=((Kp.refl _ _).alloc _).drew
    refine ⟨Nw.kp kb8 _,?_⟩
    refine call (dsync_spec [logN p] _ 1 g D8 F8 _ (h8.dk.nw kb8) ((Rd.fresh (w:=w8) rfl rfl).nw ((Kp.refl _ _).drew)) (h8.dk.ofl_new (Nat.le_refl _) _) (by simp) (by simpa using hsN)) ?_
    rintro v w9 ⟨rfl,F9,hD9,hG9,hK9⟩
    have hK89:=(Nw.kp kb8 F8).trans hK9 fun _ _ h => h
    refine ⟨hK89,?_⟩
    obtain ⟨h9,ch9⟩:=Ch.disk h8 hD9 (Gr.wide hG9 kb8.size (Nat.le_refl _)) hK89
    have cw9:=cw8.trans ch9
    have hRX9:Rd w9 X (b.map u8):=hRX.kp hK89 (fun a ha hx hf => (hG8 _ hf).elim (fun e => hX a ha hx (h.fv _ e)) fun e => (hr.nw n7).ofl (S:=fun k => w7.heap.size ≤ k) (fun _ h => h) a ha hx e.1)
    obtain ⟨E,hE⟩:∃ E,E = dEach fSync D8 [logN p]:=⟨_,rfl⟩
    rw [← hE] at e0 h9 ⊢
    obtain ⟨DE,e9⟩:=E
    simp only at h9 ⊢
    by_cases h0:e9 = 0
    ·subst h0
     simp -dsimp [go_sem,f0,f1]
     refine call (dies0_spec l g p L G _ w9 (LS.lg h9) hd) ?_
     rintro v wd ⟨rfl,lgd,kdd⟩
     have hGl:=Lg.gl (LS.lg h9)
     obtain ⟨hLd,chd⟩:=Ch.own h9 lgd (fun _ h => .inl h) (fun _ h => .inl h) (fun _ h => h) (kdd.mono fun k _ (e:k = l) => e ▸ hGl)
     have ccd:=Ch.trans cw9 chd
     have hRd:Rd wd X (b.map u8):=Rd.kp hRX9 kdd (fun a ha hx (e:a.block = l) => hX a ha hx (e ▸ h.lg.gv l h.lg.gl))
     clear lgd
     have hap:apL L (DE,0) b = (DE,{ L with ents:=L.ents ++ [b] },L.last + 1,0):=by unfold apL; rw [if_neg (fun h => h rfl)]
     rw [hap] at e0
     simp -dsimp [go_sem]
     obtain ⟨Bz,dz,Az,cz,vz,hbz,hrz,hoz,hdz,hAz,hvz,hAlz,g1,g2,g3⟩:=id hLd.lg
     have l4:wd.cell? ⟨l,4,none⟩ = some (.slice Az L.ents.length cz):=hbz.cell 4
     have hlA:¬ blk Az l:=fun e => by obtain ⟨a,ha,e2⟩:=blk_of e; exact hAlz a ha e2
     have kdr:Kp (blk Az) wd wd.drew:=(Kp.refl _ _).drew
     have kdrN:Nw wd wd.drew:=(Kp.refl _ _).drew
     have l4d:=kdr.cell_some l4 hlA
     refine drawD (.take 0 (.take 1 (.take 2 (.take 3 (.take 4 (.take 5 (.alt 6 (.alt 7 (.alt 8 (.alt 9 (.alt 10 (.alt 11 .done .stop) .stop) .stop) .stop) .stop) .stop))))))) 11 (by kernel_rfl) (fun wz => Kp (blk Az) wd wz) kdr ?_
     simp -dsimp [go_sem,f0,f1,l4d]
     refine ⟨fun wz hz => by simp [hz.cell_some l4 hlA],?_⟩
     refine call (clone_spec X x b wd.drew (hRd.nw kdrN) (by omega)) ?_
     rintro v we ⟨hBe,hke⟩
     have nde:Nw wd we:=kdrN.nw hke
     refine ⟨.inr (Nw.kp nde _),?_⟩
     obtain ⟨Ye,ye,rfl,hoe,hYe⟩:=id hBe
     simp -dsimp [go_sem]
     have kbe:Nw wd (we.alloc (.cells #[.slice Ye b.length ye] 23)):=nde.alloc _
     refine ⟨Nw.kp kbe _,?_⟩
     have hYed:∀ k,blk Ye k → wd.heap.size ≤ k:=fun k hk => by
      obtain ⟨a,ha,rfl⟩:=blk_of hk
      exact Nat.le_trans kdrN.size (hYe a ha)
     refine app Tryz.Srows (hAz.nw kbe) (ys:=[.slice Ye b.length ye]) (Rd.fresh rfl rfl) (m:=1) rfl (by simp [Value.oneCell']) (by omega) (by omega) ?_
     intro Af cf wf hof hkf hAAf
     have hkdf:Kp (blk Az) wd wf:=(Nw.kp kbe _).trans hkf fun _ _ h => h
     refine ⟨.inr hkdf,?_⟩
     have hAf:∀ k,blk Af k → blk Az k ∨ we.heap.size ≤ k:=fun k hk => by
      rcases hAAf with rfl | ⟨rfl,_⟩
      ·exact .inl hk
      ·right
       rw [show k = _ from hk]
       simp
     have hew:=nde.size
     obtain ⟨lgf,gG,gV,kG⟩:=lg_push (e:=b) (hbz.nw nde) (hrz.nw nde) hoz hdz (hAz.nw nde) (hvz.nw nde) hAlz g1 g2 (fun k hk => Nat.lt_of_lt_of_le (g3 k hk) hew) hof rfl (((Kp.refl (blk Az) we).alloc _).trans hkf fun _ _ h => h) hAf hoe.rd (fun a ha _ hv => by have h1:=hYed a.block (by rw [ha]; rfl); have h2:=g3 _ hv; omega) hoe.2.1
     obtain ⟨nf,hnf⟩:∃ nf,nf = L.ents.length + 1:=⟨_,rfl⟩
     rw [← hnf] at lgf gG gV kG ⊢
     have l4f:=hkdf.cell_some l4 hlA
     have lff:=(hbz.kp hkdf hlA).frozen 4
     obtain ⟨hLf,chf⟩:=Ch.own (hLd.nw nde) lgf gG gV (fun k hk => .inl hk) kG
     have okf:({ L with ents:=L.ents ++ [b] }:Led).Ok:=by
      have:=lApp_ok ok D p b
      rw [e0] at this
      exact this
     simp -dsimp [go_sem,l4f,lff,f0,f1]
     refine ⟨hkdf,?_⟩
     refine call (last_spec l g p _ _ _ _ hLf.lg okf) ?_
     rintro v wg ⟨rfl,hkg⟩
     have hll:({ L with ents:=L.ents ++ [b] }:Led).last = L.last + 1:=by simp [Led.last]; omega
     rw [hll,e0]
     simp -dsimp [go_sem]
     exact ⟨_,_,_,hLf.nw hkg,((ccd.trans (Ch.nw nde)).trans chf).trans (Ch.nw hkg)⟩
    ·have h0':((e9:Int) != 0) = true:=by simp; omega
     simp -dsimp [go_sem,f0,f1]
     refine call (dies_spec e9 l g p L G _ w9 (LS.lg h9)) ?_
     rintro v wd ⟨rfl,lgd,kdd⟩
     have hGl:=Lg.gl (LS.lg h9)
     have edd:({ L with dead:=L.dead || decide (e9 ≠ 0) }:Led) = { L with dead:=true }:=by rw [hd]; simp [h0]
     rw [edd] at lgd
     obtain ⟨hLd,chd⟩:=Ch.own h9 lgd (fun _ h => .inl h) (fun _ h => .inl h) (fun _ h => h) (kdd.mono fun k _ (e:k = l) => e ▸ hGl)
     have hap:apL L (DE,e9) b = (DE,{ L with dead:=true },0,e9):=by unfold apL; rw [if_pos h0]
     rw [hap] at e0
     rw [e0]
     simp -dsimp [go_sem,h0',f0]
     exact ⟨_,_,_,hLd,Ch.trans cw9 chd⟩
   ·have h0':((e8:Int) != 0) = true:=by simp; omega
    have h0b:((e8:Int) == 0) = false:=by simp; omega
    have ea:apS (D8,e8) (logN p) = (D8,e8):=by unfold apS; rw [if_pos h0]
    rw [ea] at e0
    obtain ⟨DE,hDE⟩:∃ DE,DE = D8:=⟨_,rfl⟩
    rw [← hDE] at e0 h8
    simp -dsimp [go_sem,f8,f0,h0b]
    refine call (dies_spec e8 l g p L G _ w8 (LS.lg h8)) ?_
    rintro v wd ⟨rfl,lgd,kdd⟩
    have hGl:=Lg.gl (LS.lg h8)
    have edd:({ L with dead:=L.dead || decide (e8 ≠ 0) }:Led) = { L with dead:=true }:=by rw [hd]; simp [h0]
    rw [edd] at lgd
    obtain ⟨hLd,chd⟩:=Ch.own h8 lgd (fun _ h => .inl h) (fun _ h => .inl h) (fun _ h => h) (kdd.mono fun k _ (e:k = l) => e ▸ hGl)
    have hap:apL L (DE,e8) b = (DE,{ L with dead:=true },0,e8):=by unfold apL; rw [if_pos h0]
    rw [hap] at e0
    rw [e0]
    simp -dsimp [go_sem,h0',f8]
    exact ⟨_,_,_,hLd,Ch.trans cw8 chd⟩
end Go.Proofs.YtellahclbhfdiaaGreatDoor
