/-
  A change read by the reference: the state of a Decode, and the walk. By the session itself. A drawn piece, with what stays said from world to world: what is taken is to stay in every world behind this one. By the session itself.
-/
import Derived.Test.YtellahclbhfdiaaGreatDoorZ27
import Derived.Test.YtellahclbhfdiaaGreatDoorZ28
import Derived.Test.YtellahclbhfdiaaGreatDoorZ38
import Derived.Test.YtellahclbhfdiaaGreatDoorZ05
namespace Go.Proofs.YtellahclbhfdiaaGreatDoor
set_option linter.unusedSimpArgs false
set_option linter.unusedVariables false
set_option maxRecDepth 100000
set_option maxHeartbeats 2000000
open Go.Vc Go.RowKit
/-- A change of nothing. -/
def zeroC:Array Value:=#[i64 0,.string ⟨#[]⟩,.string ⟨#[]⟩,.string ⟨#[]⟩,.string ⟨#[]⟩,.slice none 0 0,i64 0,i64 0,i64 0,.slice none 0 0]
/-- A reading under way: the change at x, the result's cell r0, the reader h. -/
structure Dx (w0 w:World) (x r0 h:Nat) (cs:Array Value) (l:List UInt8) (bad:Bool) (F:Nat → Prop):Prop where
 bx:Blk w x 25 cs
 br:Blk w r0 25 zeroC
 rd:RefR w h l bad F
 on:Nw w0 w
 fx:∀ k,F k → k < x ∧ k ≠ r0
 hx:h < x
 hr:r0 < h
 new:w0.heap.size ≤ r0
section
variable {w0 w w':World} {x r0 h:Nat} {cs:Array Value} {l:List UInt8} {bad:Bool} {F:Nat → Prop}
theorem Dx.at_h (d:Dx w0 w x r0 h cs l bad F) {l':List UInt8} {bad':Bool} (hr:RefR w' h l' bad' F) (k:Kp (At h) w w'):Dx w0 w' x r0 h cs l' bad' F :=
 ⟨d.bx.kp k fun (e:x = h) => by have:=d.hx; omega,d.br.kp k fun (e:r0 = h) => by have:=d.hr; omega,hr,d.on.at_ k fun i (e:i = h) => by have:=d.hr; have:=d.new; omega,d.fx,d.hx,d.hr,d.new⟩
theorem Dx.nw (d:Dx w0 w x r0 h cs l bad F) (k:Nw w w'):Dx w0 w' x r0 h cs l bad F:=⟨d.bx.nw k,d.br.nw k,d.rd.nw k,d.on.nw k,d.fx,d.hx,d.hr,d.new⟩
theorem Dx.fr (d:Dx w0 w x r0 h cs l bad F) {B:Nat} (k:Kp (Fr B) w w') (hB:x < B):Dx w0 w' x r0 h cs l bad F :=
 ⟨d.bx.kp k fun (e:B ≤ x) => by omega,d.br.kp k fun (e:B ≤ r0) => by have:=d.hr; have:=d.hx; omega,d.rd.kp_ k fun i hi (e:B ≤ i) => by have:=d.fx i hi; omega,d.on.at_ k fun i (e:B ≤ i) => by have:=d.hr; have:=d.hx; have:=d.new; omega,d.fx,d.hx,d.hr,d.new⟩
theorem Dx.set (d:Dx w0 w x r0 h cs l bad F) (i:Nat) (v:Value):Dx w0 (w.setCell ⟨x,i,none⟩ v) x r0 h (cs.setIfInBounds i v) l bad F:=by
 have k:Kp (At x) w (w.setCell ⟨x,i,none⟩ v):=(Kp.refl _ _).setCell_at _ _
 exact ⟨d.bx.set i v,d.br.kp k fun (e:r0 = x) => by have:=d.hr; have:=d.hx; omega,d.rd.kp_ k fun i hi (e:i = x) => by have:=d.fx i hi; omega,d.on.at_ k fun i (e:i = x) => by have:=d.hr; have:=d.hx; have:=d.new; omega,d.fx,d.hx,d.hr,d.new⟩
theorem Dx.num (d:Dx w0 w x r0 h cs l bad F) (hl:l.length ≤ 140737488355328):Cal Tryz.prog 44 #[.pointer (some ⟨h,0,none⟩)] w fun v w' => v = i64 (numL l bad).1 ∧ Dx w0 w' x r0 h cs (numL l bad).2.1 (numL l bad).2.2 F ∧ Kp (At h) w w' :=
 (refNumT_spec h l bad F w d.rd hl).mono fun v w' ⟨e,hr,k⟩ => ⟨e,d.at_h hr k,k⟩
theorem Dx.bytes (d:Dx w0 w x r0 h cs l bad F) (hl:l.length ≤ 140737488355328):Cal Tryz.prog 45 #[.pointer (some ⟨h,0,none⟩)] w fun v w' => Bs w' v (bytL l bad).1 w.heap.size ∧ Dx w0 w' x r0 h cs (bytL l bad).2.1 (bytL l bad).2.2 F ∧ Kp (At h) w w' :=
 (refBytesT_spec h l bad F w d.rd hl).mono fun v w' ⟨e,hr,k⟩ => ⟨e,d.at_h hr k,k⟩
end
end Go.Proofs.YtellahclbhfdiaaGreatDoor
namespace Go.Vc
set_option linter.unusedSimpArgs false
set_option linter.unusedVariables false
def vcF (P:Program) (ops:Array Oper) (R:World → World → Prop) (fin:Nat) (K:St → World → Prop):Tr → St → World → Prop
 | .done,s,w => K s w
 | .take i t,s,w => ∃ o,ops[i]? = some o ∧ takeG P ops (R w) o s w (vcF P ops R fin K t)
 | .alt i t rest,s,w => (∃ o,ops[i]? = some o ∧ vcG P ops o s w (fun s' w' => (i = fin ∨ R w w') ∧ vcF P ops R fin K t s' w')) ∧ vcF P ops R fin K rest s w
 | .stop,_,_ => True
section
variable {P:Program} {ops:Array Oper}
def anyF (P:Program) (ops:Array Oper) (R:World → World → Prop) (fin:Nat) (K:St → World → Prop):Nat → Array Bool → St → World → Prop
 | 0,listed,s,w => Region.ready .any ops listed = [] ∧ K s w
 | fuel + 1,listed,s,w =>
  (Region.ready .any ops listed = [] → K s w) ∧
  ∀ i ∈ Region.ready .any ops listed,match ops[i]? with
   | none => anyF P ops R fin K fuel (listed.setIfInBounds i true) s w
   | some o => vcG P ops o s w (fun s' w' => (i = fin ∨ R w w') ∧ anyF P ops R fin K fuel (listed.setIfInBounds i true) s' w')
theorem anyS_of_anyF {R:World → World → Prop} {fin:Nat} {K:St → World → Prop}:∀ (fuel:Nat) (listed:Array Bool) (s:St) (w:World),anyF P ops R fin K fuel listed s w → anyS P ops K fuel listed s w
 | 0,_,_,_,h => h
 | fuel + 1,listed,s,w,h => ⟨h.1,fun i hi => by
   have h1:=h.2 i hi
   cases ho:ops[i]? with
   | none => simp only [ho] at h1 ⊢; exact anyS_of_anyF fuel _ s w h1
   | some o => simp only [ho] at h1 ⊢; exact vcG_mono h1 fun s w h => anyS_of_anyF fuel _ s w h.2⟩
theorem YieldsS.weak {S S':World → Prop} {o:Oper} {v:Value} {s:St} (h:YieldsS P ops S o v s) (hs:∀ w,S' w → S w):YieldsS P ops S' o v s:=by
 unfold YieldsS at *
 split
 ·rename_i hg; simp only [hg] at h; exact fun w1 h1 => h w1 (hs w1 h1)
 ·rename_i j b hg
  simp only [hg] at h
  split
  ·rename_i e; rw [if_pos e] at h; exact fun w1 h1 => h w1 (hs w1 h1)
  ·rename_i e; rw [if_neg e] at h; exact h
theorem anyF_first {R:World → World → Prop} (rf:∀ w,R w w) (tr:∀ a b c,R a b → R b c → R a c) {K:St → World → Prop} {fin i:Nat} (hfin:depOn ops fin i = true) {oi:Oper} {v:Value} (hi:ops[i]? = some oi) (hsel:∀ (j:Nat) (o:Oper) cs b,ops[j]? = some o → o.op ≠ .select cs b) :
  ∀ (fuel:Nat) (listed:Array Bool) (s:St) (w:World),
   (∀ j oj,ops[j]? = some oj → j ≠ i → listed.getD j true = false → (∀ e ∈ oj.after,Region.binds .any e = true → e.on ≠ i) → oi.apart ops oj = true) →
   i ∈ Region.ready .any ops listed → YieldsS P ops (R w) oi v s → anyF P ops R fin K fuel (listed.setIfInBounds i true) (putS s oi.dst v) w → anyF P ops R fin K (fuel + 1) listed s w:=by
 intro fuel
 induction fuel with
 | zero =>
  intro listed s w _ hr hy H
  refine ⟨fun h => (by rw [h] at hr; cases hr),fun j hj => ?_⟩
  by_cases hji:j = i
  ·subst hji; simp only [hi]; exact hy.vcG (rf w) ⟨.inr (rf w),H⟩
  ·have:=ready_mono hj hji
   rw [H.1] at this
   cases this
 | succ fuel ih =>
  intro listed s w hfree hr hy H
  refine ⟨fun h => (by rw [h] at hr; cases hr),fun j hj => ?_⟩
  by_cases hji:j = i
  ·subst hji; simp only [hi]; exact hy.vcG (rf w) ⟨.inr (rf w),H⟩
  ·have h1:=H.2 j (ready_mono hj hji)
   obtain ⟨hjun,oj,hoj,hall⟩:=mem_ready.1 hj
   have hnot:∀ e ∈ oj.after,Region.binds .any e = true → e.on ≠ i:=fun e he hb heq => by
    have h1:=hall e he hb
    have h0:=(mem_ready.1 hr).1
    rw [heq] at h1
    rcases Nat.lt_or_ge i listed.size with h' | h'
    ·simp [h'] at h0 h1; rw [h0] at h1; cases h1
    ·simp [Array.getElem?_eq_none h'] at h1
   have hjf:j ≠ fin:=fun e => by
    subst e
    obtain ⟨e,he,hb,hon⟩:=depOn_spec hfin hoj
    exact hnot e he hb hon
   simp only [hoj] at h1 ⊢
   have h2:=vcG_putS (hfree j oj hoj hji hjun hnot) (fun cs b => hsel i oi cs b hi) (fun cs b => hsel j oj cs b hoj) hy h1
   have hfree':∀ k ok,ops[k]? = some ok → k ≠ i → (listed.setIfInBounds j true).getD k true = false →
     (∀ e ∈ ok.after,Region.binds .any e = true → e.on ≠ i) → oi.apart ops ok = true:=fun k ok hk hki hun hno => by
    refine hfree k ok hk hki ?_ hno
    by_cases hjk:j = k
    ·subst hjk; exact hjun
    ·rw [getD_set_ne true hjk] at hun; exact hun
   refine vcG_mono h2 fun s' w' h3 => ⟨.inr (h3.2.1.resolve_left hjf),ih (listed.setIfInBounds j true) s' w' hfree' (ready_mono hr (Ne.symm hji)) (h3.1.weak fun w1 h1 => tr w w' w1 (h3.2.1.resolve_left hjf) h1) ?_⟩
   rw [Array.setIfInBounds_comm _ _ hji]
   exact h3.2.2
theorem anyF_of_vcF {R:World → World → Prop} (rf:∀ w,R w w) (tr:∀ a b c,R a b → R b c → R a c) {K:St → World → Prop} {fin:Nat} (hsel:Region.noSelect ops = true):∀ (t:Tr) (n:Nat) (listed:Array Bool) (new:Bool) (s:St) (w:World),chkT ops n listed new t = true → finT ops fin t = true → vcF P ops R fin K t s w →
  (new = true → anyF P ops R fin K n listed s w) ∧
  (t.isAlt = true → ∀ m,n = m + 1 → ∀ i ∈ t.heads,∃ o,ops[i]? = some o ∧ vcG P ops o s w (fun s' w' => (i = fin ∨ R w w') ∧ anyF P ops R fin K m (listed.setIfInBounds i true) s' w')):=by
 intro t
 induction t with
 | done =>
  intro n listed new s w hc _ h
  have h0:Region.ready .any ops listed = []:=by cases n <;> simpa [chkT] using hc
  refine ⟨fun _ => ?_,fun h => by cases h⟩
  cases n with
  | zero => exact ⟨h0,h⟩
  | succ n => exact ⟨fun _ => h,by rw [h0]; simp⟩
 | take i t ih =>
  intro n listed new s w hc hft h
  simp only [finT,Bool.and_eq_true] at hft
  refine ⟨fun _ => ?_,fun h => by cases h⟩
  cases n with
  | zero => simp [chkT] at hc
  | succ n =>
   simp only [chkT,Bool.and_eq_true] at hc
   obtain ⟨⟨hr,hf⟩,hc⟩:=hc
   obtain ⟨o,ho,h⟩:=h
   have key:∃ v,YieldsS P ops (R w) o v s ∧ vcF P ops R fin K t (putS s o.dst v) w:=by
    unfold takeG at h
    unfold YieldsS
    cases hg:o.guard with
    | none => simp only [hg] at h; simp only []; exact takeV_spec h
    | some p =>
     obtain ⟨j,b⟩:=p
     simp only [hg] at h
     simp only []
     by_cases e:yieldS ops s j = some b
     ·simp only [if_pos e] at h ⊢; exact takeV_spec h
     ·simp only [if_neg e] at h ⊢; exact ⟨undef,rfl,h⟩
   obtain ⟨v,hy,hK⟩:=key
   exact anyF_first rf tr hft.1 ho (Region.noSelect_spec hsel) n listed s w (Region.free_spec ho hf) (by simpa using hr) hy ((ih n _ true _ w hc hft.2 hK).1 rfl)
 | alt i t rest iht ihr =>
  intro n listed new s w hc hft h
  simp only [finT,Bool.and_eq_true,Bool.or_eq_true] at hft
  obtain ⟨⟨hfd,hf1⟩,hf2⟩:=hft
  cases n with
  | zero => simp [chkT] at hc
  | succ n =>
   simp only [chkT,Bool.and_eq_true] at hc
   obtain ⟨⟨⟨hr,hal⟩,hct⟩,hcr⟩:=hc
   obtain ⟨⟨o,ho,h1⟩,h2⟩:=h
   have all:∀ i' ∈ (Tr.alt i t rest).heads,∃ o,ops[i']? = some o ∧ vcG P ops o s w (fun s' w' => (i' = fin ∨ R w w') ∧ anyF P ops R fin K n (listed.setIfInBounds i' true) s' w'):=by
    intro i' hi'
    simp only [Tr.heads,List.mem_cons] at hi'
    rcases hi' with rfl | hi'
    ·exact ⟨o,ho,vcG_mono h1 fun s' w' h' => ⟨h'.1,(iht n _ true s' w' hct hf1 h'.2).1 rfl⟩⟩
    ·exact (ihr (n + 1) listed false s w hcr hf2 h2).2 hal n rfl i' hi'
   refine ⟨fun hnew => ?_,fun _ m hm i' hi' => by cases hm; exact all i' hi'⟩
   subst hnew
   have hr':Region.ready .any ops listed = i :: rest.heads:=by simpa using hr
   refine ⟨(fun h0 => by rw [hr'] at h0; cases h0),fun i' hi' => ?_⟩
   rw [hr'] at hi'
   obtain ⟨o',ho',h'⟩:=all i' hi'
   simp only [ho']
   exact h'
 | stop =>
  intro n listed new s w hc _ _
  refine ⟨fun hnew => ?_,fun _ m _ i hi => by simp [Tr.heads] at hi⟩
  subst hnew
  cases n <;> simp [chkT] at hc
theorem drawF_tree {K:St → World → Prop} {s:St} {w:World} (t:Tr) (fin:Nat) (hc:((Region.noSelect ops && chkT ops ops.size (Array.replicate ops.size false) true t) && finT ops fin t) = true) (R:World → World → Prop) (rf:∀ w,R w w) (tr:∀ a b c,R a b → R b c → R a c)
  (h:vcF P ops R fin K t s { w with drawn:=w.drawn + 1 }):drawS P ops K s w:=by
 simp only [Bool.and_eq_true] at hc
 exact anyS_of_anyF _ _ _ _ ((anyF_of_vcF rf tr hc.1.1 t _ _ true s _ hc.1.2 hc.2 h).1 rfl)
end
def wF (P:Program) (ops:Array Oper) (R:World → World → Prop) (fin:Nat) (K:St → World → Prop) (t:Tr) (_:Stop (ops,K,t)) (s:St) (w:World):Prop:=vcF P ops R fin K t s w
section
variable {P:Program} {R:World → World → Prop} {fin:Nat}
@[go_sem] theorem wF_done (ops:Array Oper) (K:St → World → Prop) (k:Stop (ops,K,Tr.done)) (s:St) (w:World):wF P ops R fin K .done k s w = K s w:=(rfl)
@[go_sem] theorem wF_stop (ops:Array Oper) (K:St → World → Prop) (k:Stop (ops,K,Tr.stop)) (s:St) (w:World):wF P ops R fin K .stop k s w = True:=(rfl)
@[go_sem] theorem wF_take (l:List Oper) (K:St → World → Prop) (i:Nat) (t:Tr) (k:Stop (l.toArray,K,Tr.take i t)) (s:St) (w:World):wF P l.toArray R fin K (.take i t) k s w = ∃ o,l[i]? = some o ∧ wTakeG P l.toArray (R w) o s w (wF P l.toArray R fin K t .mk) .mk:=by
 simp [wF,vcF,wTakeG]; rfl
@[go_sem] theorem wF_alt (l:List Oper) (K:St → World → Prop) (i:Nat) (t rest:Tr) (k:Stop (l.toArray,K,Tr.alt i t rest)) (s:St) (w:World):wF P l.toArray R fin K (.alt i t rest) k s w =
  ((∃ o,l[i]? = some o ∧ wG P l.toArray o s w (fun s' w' => (i = fin ∨ R w w') ∧ wF P l.toArray R fin K t .mk s' w') .mk) ∧ wF P l.toArray R fin K rest .mk s w):=by
 simp [wF,vcF,wG]
end
/-- The same, what is known behind it said once. -/
theorem drawF_cut {P:Program} {s:St} {w:World} {id:Nat} {l:List Oper} {Q:Ex → St → World → Prop} {k:Stop (Code.region id l.toArray true,Q)} (t:Tr) (fin:Nat) (I:St → World → Prop) (hc:((Region.noSelect l.toArray && chkT l.toArray l.length (Array.replicate l.length false) true t) && finT l.toArray fin t) = true) (R:World → World → Prop) (rf:∀ w,R w w) (tr:∀ a b c,R a b → R b c → R a c)
  (h:wF P l.toArray R fin I t .mk s w.drew) (hK:∀ s' w',I s' w' → Q .normal s' w'):walk P (.region id l.toArray true) Q k s w:=by
 show drawS P l.toArray (Q .normal) s w
 exact anyS_mono hK _ _ _ _ (drawF_tree t fin hc R rf tr h)
end Go.Vc
