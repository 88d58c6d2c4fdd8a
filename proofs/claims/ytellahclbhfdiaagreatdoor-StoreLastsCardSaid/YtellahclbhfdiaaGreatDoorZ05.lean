/-
  A drawn piece whose last operation (a store) stands behind all others: what is known of the world need not hold behind it. By the session itself. box: slices.Clone of messages, copied walked. By the session itself. box: isIn, New, Add walked. By the session itself.
-/
import Derived.Test.YtellahclbhfdiaaGreatDoorZ01
import Derived.Test.YtellahclbhfdiaaGreatDoorZ04
namespace Go.Vc
set_option linter.unusedSimpArgs false
set_option linter.unusedVariables false
def Tr.isDone:Tr → Bool
 | .done => true
 | _ => false
/-- Does the last operation stand behind number i? -/
def depOn (ops:Array Oper) (fin i:Nat):Bool:=match ops[fin]? with
 | some o => o.after.toList.any fun e => Region.binds .any e && e.on == i
 | none => false
def finT (ops:Array Oper) (fin:Nat):Tr → Bool
 | .done => true
 | .take i t => depOn ops fin i && finT ops fin t
 | .alt i t rest => (i != fin || t.isDone) && finT ops fin t && finT ops fin rest
 | .stop => true
theorem depOn_spec {ops:Array Oper} {fin i:Nat} (h:depOn ops fin i = true) {o:Oper} (ho:ops[fin]? = some o):∃ e ∈ o.after,Region.binds .any e = true ∧ e.on = i:=by
 unfold depOn at h
 rw [ho] at h
 obtain ⟨e,he,h2⟩:=List.any_eq_true.1 h
 simp only [Bool.and_eq_true,beq_iff_eq] at h2
 exact ⟨e,by simpa using he,h2⟩
def vcD (P:Program) (ops:Array Oper) (S:World → Prop) (fin:Nat) (K:St → World → Prop):Tr → St → World → Prop
 | .done,s,w => K s w
 | .take i t,s,w => ∃ o,ops[i]? = some o ∧ takeG P ops S o s w (vcD P ops S fin K t)
 | .alt i t rest,s,w => (∃ o,ops[i]? = some o ∧ vcG P ops o s w (fun s' w' => (i = fin ∨ S w') ∧ vcD P ops S fin K t s' w')) ∧ vcD P ops S fin K rest s w
 | .stop,_,_ => True
section
variable {P:Program} {ops:Array Oper}
def anyD (P:Program) (ops:Array Oper) (S:World → Prop) (fin:Nat) (K:St → World → Prop):Nat → Array Bool → St → World → Prop
 | 0,listed,s,w => Region.ready .any ops listed = [] ∧ K s w
 | fuel + 1,listed,s,w =>
  (Region.ready .any ops listed = [] → K s w) ∧
  ∀ i ∈ Region.ready .any ops listed,match ops[i]? with
   | none => anyD P ops S fin K fuel (listed.setIfInBounds i true) s w
   | some o => vcG P ops o s w (fun s' w' => (i = fin ∨ S w') ∧ anyD P ops S fin K fuel (listed.setIfInBounds i true) s' w')
theorem anyS_of_anyD {S:World → Prop} {fin:Nat} {K:St → World → Prop}:∀ (fuel:Nat) (listed:Array Bool) (s:St) (w:World),anyD P ops S fin K fuel listed s w → anyS P ops K fuel listed s w
 | 0,_,_,_,h => h
 | fuel + 1,listed,s,w,h => ⟨h.1,fun i hi => by
   have h1:=h.2 i hi
   cases ho:ops[i]? with
   | none => simp only [ho] at h1 ⊢; exact anyS_of_anyD fuel _ s w h1
   | some o => simp only [ho] at h1 ⊢; exact vcG_mono h1 fun s w h => anyS_of_anyD fuel _ s w h.2⟩
theorem anyD_first {S:World → Prop} {K:St → World → Prop} {fin i:Nat} (hfin:depOn ops fin i = true) {oi:Oper} {v:Value} (hi:ops[i]? = some oi) (hsel:∀ (j:Nat) (o:Oper) cs b,ops[j]? = some o → o.op ≠ .select cs b) :
  ∀ (fuel:Nat) (listed:Array Bool) (s:St) (w:World),
   (∀ j oj,ops[j]? = some oj → j ≠ i → listed.getD j true = false → (∀ e ∈ oj.after,Region.binds .any e = true → e.on ≠ i) → oi.apart ops oj = true) →
   i ∈ Region.ready .any ops listed → YieldsS P ops S oi v s → S w → anyD P ops S fin K fuel (listed.setIfInBounds i true) (putS s oi.dst v) w → anyD P ops S fin K (fuel + 1) listed s w:=by
 intro fuel
 induction fuel with
 | zero =>
  intro listed s w _ hr hy hS H
  refine ⟨fun h => (by rw [h] at hr; cases hr),fun j hj => ?_⟩
  by_cases hji:j = i
  ·subst hji; simp only [hi]; exact hy.vcG hS ⟨.inr hS,H⟩
  ·have:=ready_mono hj hji
   rw [H.1] at this
   cases this
 | succ fuel ih =>
  intro listed s w hfree hr hy hS H
  refine ⟨fun h => (by rw [h] at hr; cases hr),fun j hj => ?_⟩
  by_cases hji:j = i
  ·subst hji; simp only [hi]; exact hy.vcG hS ⟨.inr hS,H⟩
  ·have h1:=H.2 j (ready_mono hj hji)
   obtain ⟨hjun,oj,hoj,hall⟩:=mem_ready.1 hj
   have hnot:∀ e ∈ oj.after,Region.binds .any e = true → e.on ≠ i:=fun e he hb heq => by
    have h1:=hall e he hb
    have h0:=(mem_ready.1 hr).1
    rw [heq] at h1
    rcases Nat.lt_or_ge i listed.size with h' | h'
    ·simp [h'] at h0 h1; rw [h0] at h1; cases h1
    ·simp [Array.getElem?_eq_none h'] at h1
   have hjf:j ≠ fin:=fun e => by
    subst e
    obtain ⟨e,he,hb,hon⟩:=depOn_spec hfin hoj
    exact hnot e he hb hon
   simp only [hoj] at h1 ⊢
   have h2:=vcG_putS (hfree j oj hoj hji hjun hnot) (fun cs b => hsel i oi cs b hi) (fun cs b => hsel j oj cs b hoj) hy h1
   have hfree':∀ k ok,ops[k]? = some ok → k ≠ i → (listed.setIfInBounds j true).getD k true = false →
     (∀ e ∈ ok.after,Region.binds .any e = true → e.on ≠ i) → oi.apart ops ok = true:=fun k ok hk hki hun hno => by
    refine hfree k ok hk hki ?_ hno
    by_cases hjk:j = k
    ·subst hjk; exact hjun
    ·rw [getD_set_ne true hjk] at hun; exact hun
   refine vcG_mono h2 fun s' w' h3 => ⟨.inr (h3.2.1.resolve_left hjf),ih (listed.setIfInBounds j true) s' w' hfree' (ready_mono hr (Ne.symm hji)) h3.1 (h3.2.1.resolve_left hjf) ?_⟩
   rw [Array.setIfInBounds_comm _ _ hji]
   exact h3.2.2
theorem anyD_of_vcD {S:World → Prop} {K:St → World → Prop} {fin:Nat} (hsel:Region.noSelect ops = true):∀ (t:Tr) (n:Nat) (listed:Array Bool) (new:Bool) (s:St) (w:World),chkT ops n listed new t = true → finT ops fin t = true → (t = .done ∨ S w) → vcD P ops S fin K t s w →
  (new = true → anyD P ops S fin K n listed s w) ∧
  (t.isAlt = true → ∀ m,n = m + 1 → ∀ i ∈ t.heads,∃ o,ops[i]? = some o ∧ vcG P ops o s w (fun s' w' => (i = fin ∨ S w') ∧ anyD P ops S fin K m (listed.setIfInBounds i true) s' w')):=by
 intro t
 induction t with
 | done =>
  intro n listed new s w hc _ _ h
  have h0:Region.ready .any ops listed = []:=by cases n <;> simpa [chkT] using hc
  refine ⟨fun _ => ?_,fun h => by cases h⟩
  cases n with
  | zero => exact ⟨h0,h⟩
  | succ n => exact ⟨fun _ => h,by rw [h0]; simp⟩
 | take i t ih =>
  intro n listed new s w hc hft hS h
  have hS:S w:=hS.resolve_left (by simp)
  simp only [finT,Bool.and_eq_true] at hft
  refine ⟨fun _ => ?_,fun h => by cases h⟩
  cases n with
  | zero => simp [chkT] at hc
  | succ n =>
   simp only [chkT,Bool.and_eq_true] at hc
   obtain ⟨⟨hr,hf⟩,hc⟩:=hc
   obtain ⟨o,ho,h⟩:=h
   have key:∃ v,YieldsS P ops S o v s ∧ vcD P ops S fin K t (putS s o.dst v) w:=by
    unfold takeG at h
    unfold YieldsS
    cases hg:o.guard with
    | none => simp only [hg] at h; simp only []; exact takeV_spec h
    | some p =>
     obtain ⟨j,b⟩:=p
     simp only [hg] at h
     simp only []
     by_cases e:yieldS ops s j = some b
     ·simp only [if_pos e] at h ⊢; exact takeV_spec h
     ·simp only [if_neg e] at h ⊢; exact ⟨undef,rfl,h⟩
   obtain ⟨v,hy,hK⟩:=key
   exact anyD_first hft.1 ho (Region.noSelect_spec hsel) n listed s w (Region.free_spec ho hf) (by simpa using hr) hy hS ((ih n _ true _ w hc hft.2 (.inr hS) hK).1 rfl)
 | alt i t rest iht ihr =>
  intro n listed new s w hc hft hS h
  have hS:S w:=hS.resolve_left (by simp)
  simp only [finT,Bool.and_eq_true,Bool.or_eq_true] at hft
  obtain ⟨⟨hfd,hf1⟩,hf2⟩:=hft
  cases n with
  | zero => simp [chkT] at hc
  | succ n =>
   simp only [chkT,Bool.and_eq_true] at hc
   obtain ⟨⟨⟨hr,hal⟩,hct⟩,hcr⟩:=hc
   obtain ⟨⟨o,ho,h1⟩,h2⟩:=h
   have all:∀ i' ∈ (Tr.alt i t rest).heads,∃ o,ops[i']? = some o ∧ vcG P ops o s w (fun s' w' => (i' = fin ∨ S w') ∧ anyD P ops S fin K n (listed.setIfInBounds i' true) s' w'):=by
    intro i' hi'
    simp only [Tr.heads,List.mem_cons] at hi'
    rcases hi' with rfl | hi'
    ·exact ⟨o,ho,vcG_mono h1 fun s' w' h' => ⟨h'.1,(iht n _ true s' w' hct hf1 (h'.1.imp (fun e => by
      rcases hfd with hne | hd
      ·simp [e] at hne
      ·cases t <;> first | rfl | cases hd) id) h'.2).1 rfl⟩⟩
    ·exact (ihr (n + 1) listed false s w hcr hf2 (.inr hS) h2).2 hal n rfl i' hi'
   refine ⟨fun hnew => ?_,fun _ m hm i' hi' => by cases hm; exact all i' hi'⟩
   subst hnew
   have hr':Region.ready .any ops listed = i :: rest.heads:=by simpa using hr
   refine ⟨(fun h0 => by rw [hr'] at h0; cases h0),fun i' hi' => ?_⟩
   rw [hr'] at hi'
   obtain ⟨o',ho',h'⟩:=all i' hi'
   simp only [ho']
   exact h'
 | stop =>
  intro n listed new s w hc _ _ _
  refine ⟨fun hnew => ?_,fun _ m _ i hi => by simp [Tr.heads] at hi⟩
  subst hnew
  cases n <;> simp [chkT] at hc
theorem drawD_tree {K:St → World → Prop} {s:St} {w:World} (t:Tr) (fin:Nat) (hc:((Region.noSelect ops && chkT ops ops.size (Array.replicate ops.size false) true t) && finT ops fin t) = true) (S:World → Prop) (hS:S { w with drawn:=w.drawn + 1 })
  (h:vcD P ops S fin K t s { w with drawn:=w.drawn + 1 }):drawS P ops K s w:=by
 simp only [Bool.and_eq_true] at hc
 exact anyS_of_anyD _ _ _ _ ((anyD_of_vcD hc.1.1 t _ _ true s _ hc.1.2 hc.2 (.inr hS) h).1 rfl)
end
def wD (P:Program) (ops:Array Oper) (S:World → Prop) (fin:Nat) (K:St → World → Prop) (t:Tr) (_:Stop (ops,K,t)) (s:St) (w:World):Prop:=vcD P ops S fin K t s w
section
variable {P:Program} {S:World → Prop} {fin:Nat}
@[go_sem] theorem wD_done (ops:Array Oper) (K:St → World → Prop) (k:Stop (ops,K,Tr.done)) (s:St) (w:World):wD P ops S fin K .done k s w = K s w:=(rfl)
@[go_sem] theorem wD_stop (ops:Array Oper) (K:St → World → Prop) (k:Stop (ops,K,Tr.stop)) (s:St) (w:World):wD P ops S fin K .stop k s w = True:=(rfl)
@[go_sem] theorem wD_take (l:List Oper) (K:St → World → Prop) (i:Nat) (t:Tr) (k:Stop (l.toArray,K,Tr.take i t)) (s:St) (w:World):wD P l.toArray S fin K (.take i t) k s w = ∃ o,l[i]? = some o ∧ wTakeG P l.toArray S o s w (wD P l.toArray S fin K t .mk) .mk:=by
 simp [wD,vcD,wTakeG]; rfl
@[go_sem] theorem wD_alt (l:List Oper) (K:St → World → Prop) (i:Nat) (t rest:Tr) (k:Stop (l.toArray,K,Tr.alt i t rest)) (s:St) (w:World):wD P l.toArray S fin K (.alt i t rest) k s w =
  ((∃ o,l[i]? = some o ∧ wG P l.toArray o s w (fun s' w' => (i = fin ∨ S w') ∧ wD P l.toArray S fin K t .mk s' w') .mk) ∧ wD P l.toArray S fin K rest .mk s w):=by
 simp [wD,vcD,wG]
/-- A piece whose order is drawn, its last operation behind all others. -/
theorem drawD {s:St} {w:World} {id:Nat} {l:List Oper} {Q:Ex → St → World → Prop} {k:Stop (Code.region id l.toArray true,Q)} (t:Tr) (fin:Nat) (hc:((Region.noSelect l.toArray && chkT l.toArray l.length (Array.replicate l.length false) true t) && finT l.toArray fin t) = true) (S:World → Prop) (hS:S w.drew)
  (h:wD P l.toArray S fin (Q .normal) t .mk s w.drew):walk P (.region id l.toArray true) Q k s w:=by
 show drawS P l.toArray (Q .normal) s w
 exact drawD_tree t fin hc S hS h
end
/-- A piece whose order is drawn, what is known behind it said once. -/
theorem draw_cut {P:Program} {s:St} {w:World} {id:Nat} {l:List Oper} {Q:Ex → St → World → Prop} {k:Stop (Code.region id l.toArray true,Q)} (t:Tr) (I:St → World → Prop) (hc:(Region.noSelect l.toArray && chkT l.toArray l.length (Array.replicate l.length false) true t) = true) (S:World → Prop) (hS:S w.drew)
  (h:wT P l.toArray S I t .mk s w.drew) (hK:∀ s' w',I s' w' → Q .normal s' w'):walk P (.region id l.toArray true) Q k s w:=by
 show drawS P l.toArray (Q .normal) s w
 exact anyS_mono hK _ _ _ _ (draw_tree t hc S hS h)
end Go.Vc
namespace Go.Proofs.YtellahclbhfdiaaGreatDoor
set_option linter.unusedSimpArgs false
set_option linter.unusedVariables false
set_option maxRecDepth 100000
set_option maxHeartbeats 1000000
open Go.Vc Go.RowKit
theorem cloneM_spec (A:Option Addr) (n c:Nat) (q:MQ) (S:Nat → Prop) (w:World) (hn:n = q.length) (hr:Rd w A (mq q)) (hb:Bds w q S) (hl:q.length ≤ 1000000) :
  Cal Tryz.prog 112 #[.slice A n c] w fun v w' => Gs w' 186 4 v n (mq q) w.heap.size ∧ Nw w w':=by
 subst hn
 refine enter Tryz.mixed Tryz.func112 rfl (by kernel_rfl) ?_
 simp -dsimp [go_sem]
 refine cond_b (fun h => ?_) (fun h => ?_)
 ·obtain rfl:A = none:=by simpa using h
  have hn:q = []:=by
   cases q with
   | nil => rfl
   | cons b t => obtain ⟨_,_,e,_⟩:=hr 0 _ rfl; cases e
  subst hn
  simp -dsimp [go_sem]
  exact ⟨Gs.nil _ _ _ _,Kp.refl _ _⟩
 ·simp -dsimp [go_sem]
  have ka:Nw w (w.alloc (.cells #[] 186)):=(Kp.refl _ _).alloc _
  refine gs_app Smsg (B:=w.heap.size) (xs:=[]) (n:=0) (ys:=mq q) (m:=q.length) (Gs.made w 186 4 0 #[] rfl rfl rfl (by simp [maxLen]) (Nat.le_refl _)) (hr.nw ka) (mq_len q) (mq_one hb) (by omega) (by omega) ka.size ?_
  intro v' w' hG hk
  simp -dsimp [go_sem]
  refine ⟨by simpa using hG,Nw.fr ka hk (Nat.le_refl _)⟩
theorem copied_spec (v:Value) (b:Bx) (S:Nat → Prop) (w:World) (h:RB w v b S) (hl:b.L.length ≤ 1000000) (hbl:∀ m ∈ b.L,m.body.length ≤ 1000000000) :
  Cal Tryz.prog 146 #[v] w fun v w' => OB w' v b w.heap.size ∧ Nw w w':=by
 obtain ⟨A,c,q,rfl,hq,hc,hr,ho,hb⟩:=h
 have hql:q.length = b.L.length:=by rw [← hq,List.length_map]
 refine enter Tryz.mixed Tryz.func146 rfl (by kernel_rfl) ?_
 simp -dsimp [go_sem]
 have k0:Nw w (w.alloc (.cells #[.string b.name,i64 b.val,i64 b.next,.slice A b.L.length c] 111)):=(Kp.refl _ _).alloc _
 have kz:=k0.alloc (.cells #[.string ⟨#[]⟩,i64 0,i64 0,.slice none 0 0] 111)
 refine call (cloneM_spec A b.L.length c q (fun _ => False) _ hql.symm (hr.nw kz) (fun p hp => (hb p hp).any.nw kz) (by omega)) ?_
 rintro v w1 ⟨hG,hk1⟩
 obtain ⟨x,hx⟩:∃ x,x = w.heap.size:=⟨_,rfl⟩
 have hB1:Blk ((w.alloc (.cells #[.string b.name,i64 b.val,i64 b.next,.slice A b.L.length c] 111)).alloc (.cells #[.string ⟨#[]⟩,i64 0,i64 0,.slice none 0 0] 111)) x 111 #[.string b.name,i64 b.val,i64 b.next,.slice A b.L.length c]:=(Blk.fresh hx).kp ((Kp.refl (fun _ => False) _).alloc _) fun h => h
 have hB2:Blk ((w.alloc (.cells #[.string b.name,i64 b.val,i64 b.next,.slice A b.L.length c] 111)).alloc (.cells #[.string ⟨#[]⟩,i64 0,i64 0,.slice none 0 0] 111)) (x + 1) 111 #[.string ⟨#[]⟩,i64 0,i64 0,.slice none 0 0]:=Blk.fresh (by rw [hx]; simp)
 have hsz:((w.alloc (.cells #[.string b.name,i64 b.val,i64 b.next,.slice A b.L.length c] 111)).alloc (.cells #[.string ⟨#[]⟩,i64 0,i64 0,.slice none 0 0] 111)).heap.size = x + 2:=by rw [hx]; simp
 rw [hsz] at hG
 rw [← hx]
 generalize (w.alloc (.cells #[.string b.name,i64 b.val,i64 b.next,.slice A b.L.length c] 111)).alloc (.cells #[.string ⟨#[]⟩,i64 0,i64 0,.slice none 0 0] 111) = wa at *
 have hb1:=hB1.nw hk1
 have hb2:=hB2.nw hk1
 have n1:=kz.nw hk1
 have f13:=hb1.frozen 3
 have c13:=hb1.cell 3
 obtain ⟨A',c',rfl,ho',hA'⟩:=hG
 have hs1:Kp (At x) w1 (w1.setCell ⟨x,3,none⟩ (.slice A' b.L.length c')):=(Kp.refl _ _).setCell_at _ _
 have hb1':Blk (w1.setCell ⟨x,3,none⟩ (.slice A' b.L.length c')) x 111 #[.string b.name,i64 b.val,i64 b.next,.slice A' b.L.length c']:=by simpa using hb1.set 3 (.slice A' b.L.length c')
 have hb2':=hb2.kp hs1 (by show ¬ x + 1 = x; omega)
 have n2:Nw w (w1.setCell ⟨x,3,none⟩ (.slice A' b.L.length c')):=n1.at_ hs1 fun i (e:i = x) => by omega
 have ho2:=ho'.kp hs1 (fun a ha (e:a.block = x) => by have:=hA' a ha; omega)
 have hlt1:=ho'.lt
 have hsz1:w1.heap.size ≤ (w1.setCell ⟨x,3,none⟩ (.slice A' b.L.length c')).heap.size:=hs1.size
 have c13':=hb1'.cell 3
 simp -dsimp [go_sem,c13,f13,c13']
 generalize w1.setCell ⟨x,3,none⟩ (.slice A' b.L.length c') = w2 at *
 obtain ⟨M,hM⟩:∃ M,M = w1.heap.size:=⟨_,rfl⟩
 rw [← hM] at hsz1 hlt1
 have hxM:x + 2 ≤ M:=by rw [hM]; have:=hk1.size; omega
 clear hs1 hb1 hb2 c13 f13 hk1 hB1 hB2 n1 ho' kz
 refine loop [3,4,12,13,14,15,16,17,18,19,20,21,22,23,24,25] (by kernel_rfl)
  (fun f w' => Box1 (fun a w' => ∃ qd:MQ,a = i64 qd.length ∧ qd.length ≤ q.length ∧ (qd ++ q.drop qd.length).map Prod.fst = b.L ∧ Blk w' x 111 #[.string b.name,i64 b.val,i64 b.next,.slice A' b.L.length c'] ∧ Blk w' (x + 1) 111 #[.string ⟨#[]⟩,i64 0,i64 0,.slice none 0 0] ∧
   Ow w' 186 4 A' b.L.length c' (mq (qd ++ q.drop qd.length)) ∧ (∀ p ∈ qd,Bs w' p.2 p.1.body M) ∧ Nw w w' ∧ M ≤ w'.heap.size) (f 12) w') (fun f _ => b.L.length - (intOf (f 12)).toNat)
  ⟨[],rfl,by simp,by simpa using hq,hb1',hb2',by simpa using ho2,by simp,n2,hsz1⟩ ?_
 rintro f w3 ⟨qd,f12,hqd,hqf,hb3,hz3,ho3,hd3,n3,hM3⟩
 by_cases hlt:qd.length < q.length
 ·have hlt':qd.length < b.L.length:=by omega
  have hi1:IntKind.i64.wrap ((qd.length:Int) + 1) = ((qd.length + 1:Nat):Int):=by rw [w64 (by omega) (by omega)]; omega
  have hdr:q.drop qd.length = q[qd.length] :: q.drop (qd.length + 1):=List.drop_eq_getElem_cons hlt
  have hmem:q[qd.length] ∈ q:=List.getElem_mem hlt
  have hpb:=hb _ hmem
  have hbm:q[qd.length].1.body.length ≤ 1000000000:=hbl _ (by rw [← hq]; exact List.mem_map_of_mem hmem)
  rw [hdr] at ho3 hqf
  generalize q[qd.length] = m at *
  obtain ⟨mm,mv⟩:=m
  have hat:=mq_at (qd ++ (mm,mv) :: q.drop (qd.length + 1)) qd.length (by simp)
  have hget:(qd ++ (mm,mv) :: q.drop (qd.length + 1))[qd.length]'(by simp) = (mm,mv):=by simp
  rw [hget] at hat
  replace hpb:RdB w mv mm.body S:=hpb
  replace hbm:mm.body.length ≤ 1000000000:=hbm
  obtain ⟨a0,a1,a2,a3⟩:=hat
  simp only at a0 a1 a2 a3
  obtain ⟨g,o,rfl,d0⟩:=ho3.rd _ _ a0
  obtain ⟨_,_,e1,d1⟩:=ho3.rd _ _ a1
  obtain ⟨_,_,e2,d2⟩:=ho3.rd _ _ a2
  obtain ⟨_,_,e3,d3⟩:=ho3.rd _ _ a3
  cases e1; cases e2; cases e3
  obtain ⟨g',hg'⟩:=ho3.some (by omega)
  cases hg'
  rw [Nat.zero_add] at d0 d1 d2 d3
  obtain ⟨i,hi⟩:∃ i,i = qd.length:=⟨_,rfl⟩
  obtain ⟨i1,hi1'⟩:∃ i1,i1 = qd.length + 1:=⟨_,rfl⟩
  rw [← hi1'] at hi1
  rw [← hi] at f12 hlt' hi1 d0 d1 d2 d3
  obtain ⟨B,d,rfl,hrB,hoB,hd⟩:=hpb
  have k3:Nw w3 (w3.alloc (.cells #[i64 mm.uid,i64 mm.flags,i64 mm.date,.slice B mm.body.length d] 186)):=(Kp.refl _ _).alloc _
  have hq4:Blk (w3.alloc (.cells #[i64 mm.uid,i64 mm.flags,i64 mm.date,.slice B mm.body.length d] 186)) w3.heap.size 186 #[i64 mm.uid,i64 mm.flags,i64 mm.date,.slice B mm.body.length d]:=Blk.new _ _ _
  obtain ⟨z,hz⟩:∃ z,z = w3.heap.size:=⟨_,rfl⟩
  rw [← hz] at hq4
  simp -dsimp [go_sem,f12,hlt',d0,d1,d2,d3]
  rw [← hz]
  have hb4:=hb3.nw k3
  have hz4:=hz3.nw k3
  have ho4:=ho3.nw k3
  have n4:=n3.nw k3
  have hs4:z + 1 ≤ (w3.alloc (.cells #[i64 mm.uid,i64 mm.flags,i64 mm.date,.slice B mm.body.length d] 186)).heap.size:=hq4.lt
  have hd4:∀ p ∈ qd,Bs (w3.alloc (.cells #[i64 mm.uid,i64 mm.flags,i64 mm.date,.slice B mm.body.length d] 186)) p.2 p.1.body M:=fun p hp => (hd3 p hp).nw k3
  generalize w3.alloc (.cells #[i64 mm.uid,i64 mm.flags,i64 mm.date,.slice B mm.body.length d] 186) = w4 at *
  have kd:Nw w4 w4.drew:=(Kp.refl _ _).drew
  have x3:w4.cell? ⟨x,3,none⟩ = some (.slice (some ⟨g,0,none⟩) b.L.length c'):=hb4.cell 3
  have z3:w4.cell? ⟨z,3,none⟩ = some (.slice B mm.body.length d):=hq4.cell 3
  have x3d:=kd.cell_some x3 fun h => h
  have z3d:=kd.cell_some z3 fun h => h
  refine drawD (.take 0 (.take 1 (.take 2 (.take 3 (.take 4 (.alt 5 (.alt 6 (.take 7 (.alt 8 .done .stop)) .stop) .stop)))))) 8 (by kernel_rfl) (fun wz => Nw w4 wz) kd ?_
  simp -dsimp [go_sem,x3d,z3d]
  refine ⟨fun wz hz => by simp [hz.cell_some x3 fun h => h],fun wz hz => by simp [hz.cell_some z3 fun h => h],?_⟩
  refine call (clone_spec B d mm.body _ (((hrB.nw n4).nw kd)) (by omega)) ?_
  rintro v5 w5 ⟨hB5,hk5⟩
  have k45:=kd.nw hk5
  have g3:w5.frozen? ⟨g,i * 4 + 3,none⟩ = false:=(ho4.nw k45).frozen _
  obtain ⟨B5,d5,rfl,ho5,hA5⟩:=hB5
  have e3:=(k3.nw k45).cell_some d3 fun h => h
  simp -dsimp [go_sem,hlt',g3,e3]
  refine ⟨k45,?_⟩
  have ks:Kp (At g) w5 (w5.setCell ⟨g,i * 4 + 3,none⟩ (.slice B5 mm.body.length d5)):=(Kp.refl _ _).setCell_at _ _
  have hgx:x + 2 ≤ g:=hA' _ rfl
  have hgM:g < M:=hlt1 _ rfl
  have hsz5:M ≤ w5.heap.size:=Nat.le_trans (by omega) k45.size
  have hset:=ow_set (ho4.nw k45) (i * 4 + 3) (.slice B5 mm.body.length d5)
  have hqs:=mq_set_body (qd ++ (mm,.slice B mm.body.length d) :: q.drop (qd.length + 1)) qd.length (by simp) (.slice B5 mm.body.length d5)
  rw [hget] at hqs
  simp only [hi] at hset
  rw [hqs] at hset
  have hq5:(qd ++ (mm,Value.slice B mm.body.length d) :: q.drop (qd.length + 1)).set qd.length (mm,.slice B5 mm.body.length d5) = (qd ++ [(mm,.slice B5 mm.body.length d5)]) ++ q.drop i1:=by
   rw [hi1']; simp
  rw [hq5] at hset
  simp -dsimp [go_sem,f12,hi1]
  have hl1:(qd ++ [(mm,Value.slice B5 mm.body.length d5)]).length = i1:=by simp [hi1']
  refine ⟨⟨qd ++ [(mm,.slice B5 mm.body.length d5)],by rw [hl1],by rw [hl1]; omega,?_,(hb4.nw k45).kp ks (by show ¬ x = g; omega),(hz4.nw k45).kp ks (by show ¬ x + 1 = g; omega),by rw [hl1,hi]; exact hset,?_,(n4.nw k45).at_ ks (fun k (e:k = g) => by omega),Nat.le_trans hsz5 ks.size⟩,by simp [intOf]; omega⟩
  ·rw [hl1,← hqf,hi1']; simp
  ·intro p hp
   rcases List.mem_append.1 hp with hp | hp
   ·exact ((hd4 p hp).nw k45).kp ks fun k hk _ (e:k = g) => by omega
   ·rw [List.mem_singleton.1 hp]
    refine Bs.kp (Bs.mono (⟨B5,d5,rfl,ho5,hA5⟩:Bs w5 (.slice B5 mm.body.length d5) mm.body w4.drew.heap.size) ?_) ks fun k hk _ (e:k = g) => by omega
    exact Nat.le_trans hM3 k3.size
 ·have hlen:qd.length = b.L.length:=by omega
  have hge:¬ qd.length < b.L.length:=by omega
  rw [List.drop_eq_nil_of_le (by omega),List.append_nil] at hqf ho3
  have c0:=hb3.cell 0
  have c1:=hb3.cell 1
  have c2:=hb3.cell 2
  have c3:=hb3.cell 3
  have z0:=hz3.cell 0
  have z1:=hz3.cell 1
  have z2:=hz3.cell 2
  have z3:=hz3.cell 3
  have f0:=hz3.frozen 0
  have f1:=hz3.frozen 1
  have f2:=hz3.frozen 2
  have f3:=hz3.frozen 3
  simp -dsimp [go_sem,f12,hge,c0,c1,c2,c3,z0,z1,z2,z3,f0,f1,f2,f3]
  have ks:=kp_set4 w3 (x + 1) (.string b.name) (i64 b.val) (i64 b.next) (.slice A' b.L.length c')
  refine ⟨⟨_,rfl,qd,A',c',rfl,hqf,ho3.kp ks fun a ha (e:a.block = x + 1) => (by have:=hA' a ha; omega),fun a ha => (by have:=hA' a ha; omega),fun p hp => ((BsA.of (B0:=x + 2) (hd3 p hp) (by omega) hlt1).kp ks fun k _ _ _ (e:k = x + 1) => by omega).mono (by omega)⟩,n3.at_ ks fun k (e:k = x + 1) => by omega⟩
set_option maxHeartbeats 2000000
def okF (n lo hi:Int):Bool:=decide (lo ≤ n) && decide (n ≤ hi)
theorem isIn_spec (n lo hi:Int) (w:World):Cal Tryz.prog 147 #[i64 n,i64 lo,i64 hi] w fun v w' => v = .bool (okF n lo hi) ∧ w' = w:=by
 refine enter Tryz.mixed Tryz.func147 rfl (by kernel_rfl) ?_
 by_cases h1:lo ≤ n
 ·simp -dsimp [go_sem,h1,okF]
 ·simp -dsimp [go_sem,h1,okF]
theorem bxnew_spec (nm:ByteArray) (n:Int) (w:World):Cal Tryz.prog 143 #[.string nm,i64 n] w fun v w' => v = .agg #[.string nm,i64 n,i64 1,.slice none 0 0] ∧ Nw w w':=by
 refine enter Tryz.mixed Tryz.func143 rfl (by kernel_rfl) ?_
 simp -dsimp [go_sem]
 simp [go_sem]
 exact (Kp.refl _ _).alloc _
def addB (b:Bx) (flags date:Int) (body:List UInt8):Bx × Int × Int :=
 if (okF flags 0 31 && okF date 0 1073741824) = false then (b,0,1)
 else if 1200 < body.length then (b,0,5)
 else if 24 ≤ b.L.length then (b,0,6)
 else if 1048576 ≤ b.next then (b,0,10)
 else ({ b with next:=b.next + 1,L:=b.L ++ [⟨b.next,flags,date,body⟩] },b.next,0)
/-- What Add, on the program's side and on the reference's, hands back. -/
def AddR (v:Value) (w':World) (r:Bx × Int × Int) (B:Nat):Prop:=∃ bv,v = .tuple #[bv,i64 r.2.1,i64 r.2.2] ∧ OB w' bv r.1 B
theorem two_new (w:World) (t u:TypeId) (cs ds:Array Value):∃ x,x = w.heap.size ∧ Blk ((w.alloc (.cells cs t)).alloc (.cells ds u)) x t cs ∧ Blk ((w.alloc (.cells cs t)).alloc (.cells ds u)) (x + 1) u ds ∧ ((w.alloc (.cells cs t)).alloc (.cells ds u)).heap.size = x + 2 ∧ Nw w ((w.alloc (.cells cs t)).alloc (.cells ds u)) :=
 ⟨_,rfl,(Blk.new w t cs).kp ((Kp.refl (fun _ => False) _).alloc _) fun h => h,Blk.fresh (by simp),by simp,((Kp.refl _ _).alloc _).alloc _⟩
/-- A box is handed back out of block x by way of block x + 1. -/
theorem blk_set4 {w:World} {g:Nat} {t:TypeId} {a0 a1 a2 a3:Value} (h:Blk w g t #[a0,a1,a2,a3]) (a b c d:Value):Blk ((((w.setCell ⟨g,0,none⟩ a).setCell ⟨g,1,none⟩ b).setCell ⟨g,2,none⟩ c).setCell ⟨g,3,none⟩ d) g t #[a,b,c,d]:=by
 simpa using (((h.set 0 a).set 1 b).set 2 c).set 3 d
theorem ob_out {w0 w3:World} {x:Nat} {b:Bx} {vL:Value} (hL:OL w3 vL b.L (x + 2)) (n:Nw w0 w3) (hx:x = w0.heap.size) :
  OB ((((w3.setCell ⟨x + 1,0,none⟩ (.string b.name)).setCell ⟨x + 1,1,none⟩ (i64 b.val)).setCell ⟨x + 1,2,none⟩ (i64 b.next)).setCell ⟨x + 1,3,none⟩ vL) (.agg #[.string b.name,i64 b.val,i64 b.next,vL]) b x ∧
   Nw w0 ((((w3.setCell ⟨x + 1,0,none⟩ (.string b.name)).setCell ⟨x + 1,1,none⟩ (i64 b.val)).setCell ⟨x + 1,2,none⟩ (i64 b.next)).setCell ⟨x + 1,3,none⟩ vL):=by
 have ks:=kp_set4 w3 (x + 1) (.string b.name) (i64 b.val) (i64 b.next) vL
 exact ⟨⟨vL,rfl,(hL.kp ks fun k hk _ (e:k = x + 1) => by omega).mono (by omega)⟩,n.at_ ks fun k (e:k = x + 1) => by omega⟩
theorem add_spec (v:Value) (b:Bx) (S:Nat → Prop) (flags date:Int) (body:List UInt8) (X:Option Addr) (xc:Nat) (w:World) (h:RB w v b S) (hl:b.L.length ≤ 1000000) (hbl:∀ m ∈ b.L,m.body.length ≤ 1000000000)
  (hx:Rd w X (body.map u8)) (hn:-9223372036854775808 ≤ b.next) :
  Cal Tryz.prog 91 #[v,i64 flags,i64 date,.slice X body.length xc] w fun v' w' => AddR v' w' (addB b flags date body) w.heap.size ∧ Nw w w':=by
 obtain ⟨A,c,q,rfl,hq,hc,hr,ho,hb⟩:=id h
 refine enter Tryz.mixed Tryz.func91 rfl (by kernel_rfl) ?_
 simp -dsimp [go_sem]
 obtain ⟨x,hx',hb0,hz0,hsz,n0⟩:=two_new w 111 111 #[.string b.name,i64 b.val,i64 b.next,.slice A b.L.length c] #[.string ⟨#[]⟩,i64 0,i64 0,.slice none 0 0]
 rw [← hx']
 generalize (w.alloc (.cells #[.string b.name,i64 b.val,i64 b.next,.slice A b.L.length c] 111)).alloc (.cells #[.string ⟨#[]⟩,i64 0,i64 0,.slice none 0 0] 111) = wa at *
 refine call (copied_spec _ b S wa (h.nw n0) hl hbl) ?_
 rintro v1 w1 ⟨⟨vL,rfl,hO⟩,hk1⟩
 have hb1:=hb0.nw hk1
 have hz1:=hz0.nw hk1
 have n1:=n0.nw hk1
 rw [hsz] at hO
 obtain ⟨q2,A2,d2,rfl,hq2,ho2,hA2,hbd2⟩:=id hO
 have c0:=hb1.cell 0
 have c1:=hb1.cell 1
 have c2:=hb1.cell 2
 have c3:=hb1.cell 3
 have f0:=hb1.frozen 0
 have f1:=hb1.frozen 1
 have f2:=hb1.frozen 2
 have f3:=hb1.frozen 3
 have hb:=blk_set4 hb1 (.string b.name) (i64 b.val) (i64 b.next) (.slice A2 b.L.length d2)
 have ks:=kp_set4 w1 x (.string b.name) (i64 b.val) (i64 b.next) (.slice A2 b.L.length d2)
 have hz:=hz1.kp ks (by show ¬ x + 1 = x; omega)
 have hL:=hO.kp ks fun k hk _ (e:k = x) => by omega
 have n2:=n1.at_ ks fun k (e:k = x) => by omega
 have hs2:x + 2 ≤ w1.heap.size:=by rw [← hsz]; exact hk1.size
 have hs3:=Nat.le_trans hs2 ks.size
 simp -dsimp [go_sem,c0,c1,c2,c3,f0,f1,f2,f3]
 generalize (((w1.setCell ⟨x,0,none⟩ (.string b.name)).setCell ⟨x,1,none⟩ (i64 b.val)).setCell ⟨x,2,none⟩ (i64 b.next)).setCell ⟨x,3,none⟩ (.slice A2 b.L.length d2) = w2 at *
 clear c0 c1 c2 c3 f0 f1 f2 f3 hb0 hz0 hb1 hz1 ks hk1
 refine call (isIn_spec flags 0 31 w2) ?_
 rintro v3 w3 ⟨rfl,rfl⟩
 by_cases hf:okF flags 0 31 = true
 ·simp -dsimp [go_sem,hf]
  refine call (isIn_spec date 0 1073741824 _) ?_
  rintro v4 w4 ⟨rfl,rfl⟩
  by_cases hg:okF date 0 1073741824 = true
  ·by_cases hb1:1200 < body.length
   ·have hb1':(1200:Int) < (body.length:Int):=by omega
    have e0:addB b flags date body = (b,0,5):=by unfold addB; rw [if_neg (by simp [hf,hg]),if_pos hb1]
    rw [e0]
    have c0:=hb.cell 0
    have c1:=hb.cell 1
    have c2:=hb.cell 2
    have c3:=hb.cell 3
    have z0:=hz.cell 0
    have z1:=hz.cell 1
    have z2:=hz.cell 2
    have z3:=hz.cell 3
    have f0:=hz.frozen 0
    have f1:=hz.frozen 1
    have f2:=hz.frozen 2
    have f3:=hz.frozen 3
    simp -dsimp [go_sem,c0,c1,c2,c3,z0,z1,z2,z3,f0,f1,f2,f3,hf,hg,hb1,hb1']
    obtain ⟨h1,h2⟩:=ob_out (b:=b) hL n2 hx'
    exact ⟨⟨_,rfl,h1⟩,h2⟩
   ·have hb1':¬ (1200:Int) < (body.length:Int):=by omega
    by_cases hb2:24 ≤ b.L.length
    ·have hb2':(24:Int) ≤ (b.L.length:Int):=by omega
     have e0:addB b flags date body = (b,0,6):=by unfold addB; rw [if_neg (by simp [hf,hg]),if_neg hb1,if_pos hb2]
     rw [e0]
     have c0:=hb.cell 0
     have c1:=hb.cell 1
     have c2:=hb.cell 2
     have c3:=hb.cell 3
     have z0:=hz.cell 0
     have z1:=hz.cell 1
     have z2:=hz.cell 2
     have z3:=hz.cell 3
     have f0:=hz.frozen 0
     have f1:=hz.frozen 1
     have f2:=hz.frozen 2
     have f3:=hz.frozen 3
     simp -dsimp [go_sem,c0,c1,c2,c3,z0,z1,z2,z3,f0,f1,f2,f3,hf,hg,hb1,hb1',hb2,hb2']
     obtain ⟨h1,h2⟩:=ob_out (b:=b) hL n2 hx'
     exact ⟨⟨_,rfl,h1⟩,h2⟩
    ·have hb2':¬ (24:Int) ≤ (b.L.length:Int):=by omega
     by_cases hb3:1048576 ≤ b.next
     ·have e0:addB b flags date body = (b,0,10):=by unfold addB; rw [if_neg (by simp [hf,hg]),if_neg hb1,if_neg hb2,if_pos hb3]
      rw [e0]
      have c0:=hb.cell 0
      have c1:=hb.cell 1
      have c2:=hb.cell 2
      have c3:=hb.cell 3
      have z0:=hz.cell 0
      have z1:=hz.cell 1
      have z2:=hz.cell 2
      have z3:=hz.cell 3
      have f0:=hz.frozen 0
      have f1:=hz.frozen 1
      have f2:=hz.frozen 2
      have f3:=hz.frozen 3
      simp -dsimp [go_sem,c0,c1,c2,c3,z0,z1,z2,z3,f0,f1,f2,f3,hf,hg,hb1,hb1',hb2,hb2',hb3]
      obtain ⟨h1,h2⟩:=ob_out (b:=b) hL n2 hx'
      exact ⟨⟨_,rfl,h1⟩,h2⟩
     ·have e0:addB b flags date body = ({ b with next:=b.next + 1,L:=b.L ++ [⟨b.next,flags,date,body⟩] },b.next,0):=by
       unfold addB; rw [if_neg (by simp [hf,hg]),if_neg hb1,if_neg hb2,if_neg hb3]
      rw [e0]
      have hw:IntKind.i64.wrap (b.next + 1) = b.next + 1:=w64 (by omega) (by omega)
      have c2:=hb.cell 2
      have c3:=hb.cell 3
      have f2:=hb.frozen 2
      have hb5:=hb.set 2 (i64 (b.next + 1))
      have ks:Kp (At x) w4 (w4.setCell ⟨x,2,none⟩ (i64 (b.next + 1))):=(Kp.refl _ _).setCell_at _ _
      have hz5:=hz.kp ks (by show ¬ x + 1 = x; omega)
      have hL5:=hL.kp ks fun k hk _ (e:k = x) => by omega
      have n5:=n2.at_ ks fun k (e:k = x) => by omega
      have hs5:=Nat.le_trans hs3 ks.size
      have hb6:Blk (w4.setCell ⟨x,2,none⟩ (i64 (b.next + 1))) x 111 #[.string b.name,i64 b.val,i64 (b.next + 1),.slice A2 b.L.length d2]:=by simpa using hb5
      simp -dsimp [go_sem,hg,hb1,hb1',hb2,hb2',hb3,c2,c3,f2,hw]
      generalize w4.setCell ⟨x,2,none⟩ (i64 (b.next + 1)) = w5 at *
      clear hb hz hL hb5 ks c2 c3 f2 n2 hs3 hs2 n1
      have kd:Nw w5 w5.drew:=(Kp.refl _ _).drew
      have x3:w5.cell? ⟨x,3,none⟩ = some (.slice A2 b.L.length d2):=hb6.cell 3
      have x3d:=kd.cell_some x3 fun h => h
      refine drawD (.take 0 (.take 1 (.take 2 (.take 3 (.take 4 (.take 5 (.alt 6 (.alt 7 (.alt 8 (.alt 9 (.take 10 (.alt 11 .done .stop)) .stop) .stop) .stop) .stop)))))))  11 (by kernel_rfl) (fun wz => Kp (Fr (x + 2)) w5 wz) (kd.kp _) ?_
      simp -dsimp [go_sem,x3d]
      refine ⟨fun wz hz => by simp [hz.cell_some x3 (by show ¬ x + 2 ≤ x; omega)],?_⟩
      refine call (clone_spec X xc body _ ((hx.nw n5).nw kd) (by omega)) ?_
      rintro v6 w6 ⟨hB6,hk6⟩
      have k56:=kd.nw hk6
      obtain ⟨B6,d6,rfl,ho6,hA6⟩:=id hB6
      refine ⟨.inr (Nw.kp k56 _),?_⟩
      simp -dsimp [go_sem]
      simp [go_sem]
      have ka:Nw w6 (w6.alloc (.cells #[i64 b.next,i64 flags,i64 date,.slice B6 body.length d6] 186)):=(Kp.refl _ _).alloc _
      have k6a:=k56.nw ka
      obtain ⟨q5,A5,d5,e5,hq5,ho5,hA5,hd5⟩:=hL5
      cases e5
      have hql5:q5.length = b.L.length:=by rw [← hq5,List.length_map]
      refine ⟨Nw.kp k56 _,Nw.kp k6a _,?_⟩
      refine app Smsg (xs:=mq q5) (n:=b.L.length) (ho5.nw k6a) (ys:=mq [(⟨b.next,flags,date,body⟩,.slice B6 body.length d6)]) (Rd.fresh rfl rfl) (m:=1) rfl (fun u hu => by
       simp [mq] at hu
       rcases hu with rfl | rfl | rfl | rfl
       ·rfl
       ·rfl
       ·rfl
       ·cases B6 <;> rfl) (by omega) (by omega) ?_
      intro A7 d7 w7 ho7 hk7 hAA
      have hA2b:∀ k,blk A2 k → x + 2 ≤ k:=fun k hk => by
       obtain ⟨a,rfl,rfl⟩:=blk_of hk
       exact hA5 a rfl
      have k57:Kp (Fr (x + 2)) w5 w7:=(Nw.kp k6a _).trans (hk7.mono fun i _ hi => hA2b i hi) fun _ _ h => h
      rw [← mq_app] at ho7
      refine ⟨.inr k57,?_⟩
      have x37:=k57.cell_some x3 (by show ¬ x + 2 ≤ x; omega)
      have f37:w7.frozen? ⟨x,3,none⟩ = false:=(hb6.kp k57 (by show ¬ x + 2 ≤ x; omega)).frozen 3
      obtain ⟨n7,hn7⟩:∃ n7,n7 = b.L.length + 1:=⟨_,rfl⟩
      rw [← hn7] at ho7 ⊢
      have hb7:=hb6.kp k57 (by show ¬ x + 2 ≤ x; omega)
      have hz7:=hz5.kp k57 (by show ¬ x + 2 ≤ x + 1; omega)
      have c0:=hb7.cell 0
      have c1:=hb7.cell 1
      have c2:=hb7.cell 2
      have z0:=hz7.cell 0
      have z1:=hz7.cell 1
      have z2:=hz7.cell 2
      have z3:=hz7.cell 3
      have f0:=hz7.frozen 0
      have f1:=hz7.frozen 1
      have f2:=hz7.frozen 2
      have f3:=hz7.frozen 3
      simp -dsimp [go_sem,f37,x37,c0,c1,c2,z0,z1,z2,z3,f0,f1,f2,f3]
      have ks:Kp (At x) w7 (w7.setCell ⟨x,3,none⟩ (.slice A7 n7 d7)):=(Kp.refl _ _).setCell_at _ _
      have hmv:A7 = A2 ∨ ∃ a,A7 = some a ∧ (w6.alloc (.cells #[i64 b.next,i64 flags,i64 date,.slice B6 body.length d6] 186)).heap.size ≤ a.block:=by
       rcases hAA with h | ⟨h,_⟩
       ·exact .inl h
       ·exact .inr ⟨_,h,Nat.le_refl _⟩
      have hL7:OL w7 (.slice A7 n7 d7) (b.L ++ [⟨b.next,flags,date,body⟩]) (x + 2):=by
       refine ⟨q5 ++ [(⟨b.next,flags,date,body⟩,.slice B6 body.length d6)],A7,d7,by rw [List.length_append]; simp [hn7],by simp [hq5],by rw [List.length_append]; rw [hn7] at ho7; exact ho7,fun a ha => ?_,fun p hp => ?_⟩
       ·rcases hmv with rfl | ⟨a',rfl,h⟩
        ·exact hA5 a ha
        ·cases ha
         exact Nat.le_trans (Nat.le_trans hs5 k6a.size) h
       ·rcases List.mem_append.1 hp with hp | hp
        ·have h1:BsA (w6.alloc (.cells #[i64 b.next,i64 flags,i64 date,.slice B6 body.length d6] 186)) p.2 p.1.body (x + 2) A2:=(hd5 p hp).nw k6a
         exact h1.grown hk7 hmv
        ·rw [List.mem_singleton.1 hp]
         have h1:BsA (w6.alloc (.cells #[i64 b.next,i64 flags,i64 date,.slice B6 body.length d6] 186)) (.slice B6 body.length d6) body (x + 2) A2:=(BsA.of hB6 (Nat.le_trans hs5 kd.size) (ho5.nw kd).lt).nw ka
         exact h1.grown hk7 hmv
      obtain ⟨h1,h2⟩:=ob_out (b:={ b with next:=b.next + 1,L:=b.L ++ [⟨b.next,flags,date,body⟩] }) (hL7.kp ks fun k hk _ (e:k = x) => by omega) ((Nw.fr n5 k57 (by omega)).at_ ks fun k (e:k = x) => by omega) hx'
      exact ⟨⟨_,rfl,h1⟩,h2⟩
  ·rw [Bool.not_eq_true] at hg
   have e0:addB b flags date body = (b,0,1):=by unfold addB; rw [if_pos (by simp [hg])]
   rw [e0]
   have c0:=hb.cell 0
   have c1:=hb.cell 1
   have c2:=hb.cell 2
   have c3:=hb.cell 3
   have z0:=hz.cell 0
   have z1:=hz.cell 1
   have z2:=hz.cell 2
   have z3:=hz.cell 3
   have f0:=hz.frozen 0
   have f1:=hz.frozen 1
   have f2:=hz.frozen 2
   have f3:=hz.frozen 3
   simp -dsimp [go_sem,c0,c1,c2,c3,z0,z1,z2,z3,f0,f1,f2,f3,hg]
   obtain ⟨h1,h2⟩:=ob_out (b:=b) hL n2 hx'
   exact ⟨⟨_,rfl,h1⟩,h2⟩
 ·rw [Bool.not_eq_true] at hf
  have e0:addB b flags date body = (b,0,1):=by unfold addB; rw [if_pos (by simp [hf])]
  rw [e0]
  have c0:=hb.cell 0
  have c1:=hb.cell 1
  have c2:=hb.cell 2
  have c3:=hb.cell 3
  have z0:=hz.cell 0
  have z1:=hz.cell 1
  have z2:=hz.cell 2
  have z3:=hz.cell 3
  have f0:=hz.frozen 0
  have f1:=hz.frozen 1
  have f2:=hz.frozen 2
  have f3:=hz.frozen 3
  simp -dsimp [go_sem,c0,c1,c2,c3,z0,z1,z2,z3,f0,f1,f2,f3,hf]
  obtain ⟨h1,h2⟩:=ob_out (b:=b) hL n2 hx'
  exact ⟨⟨_,rfl,h1⟩,h2⟩
end Go.Proofs.YtellahclbhfdiaaGreatDoor
