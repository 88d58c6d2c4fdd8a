/-
  A verification-condition reading of a function's code: what must hold of the slots and of the world so that the code comes to an end as is asked. By the session itself.
-/
import Derived.Calls
import Derived.Tactics
import Derived.Orders
import Derived.OrdersHeld
import Derived.WalkKit
import Derived.WalkLawsBesides
import Derived.KernelRfl
import Derived.Laws.Externs
import Derived.Lib.MakeNoZero
import Derived.ScopeJumps
namespace Go.Vc
set_option linter.unusedSimpArgs false
set_option linter.unusedVariables false
/-- The slots of a frame. -/
abbrev St:=Nat → Value
def upd (s:St) (d:Nat) (v:Value):St:=fun i => if i = d then v else s i
def putS (s:St):Option Tmp → Value → St
 | some d,v => upd s d v
 | none,_ => s
def ev (s:St):Operand → Value
 | .tmp t => s t
 | .const v => v
 | .global g => .pointer (some ⟨g,0,none⟩)
 | .func f => .func (.func f) #[] #[]
def yieldS (ops:Array Oper) (s:St) (j:Nat):Option Bool :=
 match (ops[j]?).bind (·.dst) with
 | some d => match s d with | .bool b => some b | _ => none
 | none => none
/-- A call that returns; of what it hands back and of the world behind it R holds. -/
def Cal (P:Program) (f:FuncId) (args:Array Value) (w:World) (R:Value → World → Prop):Prop :=
 Calls P f args w fun e w' => ∃ v,e = .returned v ∧ R v w'
theorem Cal.mono {P:Program} {f:FuncId} {args:Array Value} {w:World} {R R':Value → World → Prop} (h:Cal P f args w R) (hr:∀ v w',R v w' → R' v w'):Cal P f args w R' :=
 Calls.mono h fun _ _ ⟨v,he,hv⟩ => ⟨v,he,hr v _ hv⟩
/-- What is asked once an operation has run. -/
def uponS (P:Program) (d:Option Tmp) (s:St) (K:St → World → Prop):Result Next → Prop
 | .ok (.value v) w => K (putS s d v) w
 | .ok .skip w => K (putS s d undef) w
 | .ok (.enter f args) w => Cal P f args w fun v w' => K (putS s d v) w'
 | _ => False
def vcOp (P:Program) (o:Oper) (s:St) (w:World) (K:St → World → Prop):Prop:=uponS P o.dst s K ((execOp (ev s) o).run P w)
/-- An operation under its guard. -/
def vcG (P:Program) (ops:Array Oper) (o:Oper) (s:St) (w:World) (K:St → World → Prop):Prop :=
 match o.guard with
 | none => vcOp P o s w K
 | some (j,want) => if yieldS ops s j = some want then vcOp P o s w K else K (putS s o.dst undef) w
def vcOps (P:Program) (ops:Array Oper) (K:St → World → Prop):List Oper → St → World → Prop
 | [],s,w => K s w
 | o :: rest,s,w => vcG P ops o s w (vcOps P ops K rest)
/-- Whatever order is picked from here on. -/
def anyS (P:Program) (ops:Array Oper) (K:St → World → Prop):Nat → Array Bool → St → World → Prop
 | 0,listed,s,w => Region.ready .any ops listed = [] ∧ K s w
 | fuel + 1,listed,s,w =>
  (Region.ready .any ops listed = [] → K s w) ∧
  ∀ i ∈ Region.ready .any ops listed,match ops[i]? with
   | none => anyS P ops K fuel (listed.setIfInBounds i true) s w
   | some o => vcG P ops o s w (anyS P ops K fuel (listed.setIfInBounds i true))
def drawS (P:Program) (ops:Array Oper) (K:St → World → Prop) (s:St) (w:World):Prop :=
 anyS P ops K ops.size (Array.replicate ops.size false) s { w with drawn:=w.drawn + 1 }
/-- How a piece of code is left. -/
inductive Ex where
 | normal
 | exit (id:Nat)
 | goto (l:Nat)
 | ret
def Ex.toExit:Ex → Exit
 | .normal => .normal
 | .exit id => .exit id
 | .goto l => .goto l
 | .ret => .ret
def thenS (K:St → World → Prop) (Q:Ex → St → World → Prop):Ex → St → World → Prop
 | .normal,s,w => K s w
 | e,s,w => Q e s w
def blockS (id:Nat) (Q:Ex → St → World → Prop):Ex → St → World → Prop
 | .exit id',s,w => if id' = id then Q .normal s w else Q (.exit id') s w
 | e,s,w => Q e s w
/-- The slots that a piece of code writes. -/
def writes:Code → List Nat
 | .region _ ops _ => ops.toList.filterMap (·.dst)
 | .seq a b => writes a ++ writes b
 | .cond _ a b => writes a ++ writes b
 | .block _ c => writes c
 | .loop c => writes c
 | .scope c => writes c
 | _ => []
def mix (ws:List Nat) (s f:St):St:=fun i => if ws.contains i then f i else s i
/-- A loop: some relation of the slots and the world holds at its head each time, and a number falls. -/
def loopS (body:(Ex → St → World → Prop) → St → World → Prop) (Q:Ex → St → World → Prop) (s:St) (w:World):Prop :=
 ∃ (I:St → World → Prop) (m:St → World → Nat),I s w ∧ ∀ s' w',I s' w' → body (thenS (fun s'' w'' => I s'' w'' ∧ m s'' w'' < m s' w') Q) s' w'
/-- What is not written stays. -/
def Same (ws:List Nat) (s s':St):Prop:=∀ i,i ∉ ws → s' i = s i
structure Rep (n:Nat) (s:St) (a:Act):Prop where
 d:a.defers = []
 sz:a.tmps.size = n
 val:∀ i,a.tmps.getD i undef = s i
def Lift (n:Nat) (Q:Ex → St → World → Prop) (e:Exit) (a:Act) (w:World):Prop:=∃ x s,e = x.toExit ∧ Rep n s a ∧ Q x s w
def okOps (n:Nat) (ops:Array Oper):Bool:=ops.toList.all fun o => match o.dst with | some t => decide (t < n) | none => true
def okC (n:Nat):Code → Bool
 | .region _ ops _ => okOps n ops
 | .seq a b => okC n a && okC n b
 | .cond _ a b => okC n a && okC n b
 | .block _ c => okC n c
 | .loop c => okC n c
 | .scope c => okC n c
 | _ => true
/-- A scope: whatever it is walked by, what it does not write stays. -/
def scopeS (P:Program) (c:Code) (Q:Ex → St → World → Prop) (s:St) (w:World):Prop :=
 ∀ n a,okC n c = true → Rep n s a → (Code.scope c).wp P (Lift n fun e s' w' => Same (writes c) s s' ∧ Q e s' w') a w
def vcC (P:Program):Code → (Ex → St → World → Prop) → St → World → Prop
 | .skip,Q,s,w => Q .normal s w
 | .region _ ops false,Q,s,w => vcOps P ops (Q .normal) ops.toList s w
 | .region _ ops true,Q,s,w => drawS P ops (Q .normal) s w
 | .seq a b,Q,s,w => vcC P a (thenS (vcC P b Q) Q) s w
 | .cond c x y,Q,s,w => ∃ t,ev s c = .bool t ∧ (t = true → vcC P x Q s w) ∧ (t = false → vcC P y Q s w)
 | .block id c,Q,s,w => vcC P c (blockS id Q) s w
 | .loop c,Q,s,w => loopS (vcC P c) Q s w
 | .exit id,Q,s,w => Q (.exit id) s w
 | .goto l,Q,s,w => Q (.goto l) s w
 | .ret,Q,s,w => Q .ret s w
 | .label _,Q,s,w => Q .normal s w
 | .scope c,Q,s,w => scopeS P c Q s w
 | _,_,_,_ => False
/-! ### It is sound -/
theorem Rep.eval {n:Nat} {s:St} {a:Act} (h:Rep n s a):a.eval = ev s:=by
 funext x
 cases x with
 | tmp t => exact h.val t
 | _ => rfl
theorem Rep.put {n:Nat} {s:St} {a:Act} (h:Rep n s a) {d:Option Tmp} (hd:∀ t,d = some t → t < n) (v:Value):Rep n (putS s d v) (a.put d v):=by
 cases d with
 | none => exact h
 | some t =>
  have ht:=hd t rfl
  refine ⟨h.d,by simp [Act.put,h.sz],fun i => ?_⟩
  simp only [Act.put,putS,upd,Array.getD_eq_getD_getElem?,Array.getElem?_setIfInBounds,h.sz]
  by_cases e:t = i
  ·subst e; simp [ht]
  ·rw [if_neg e,if_neg (fun x => e x.symm)]
   simpa [Array.getD_eq_getD_getElem?] using h.val i
theorem Rep.yielded {n:Nat} {s:St} {a:Act} (h:Rep n s a) (ops:Array Oper) (hn:∀ o ∈ ops.toList,∀ t,o.dst = some t → t < n) (j:Nat):Go.yielded ops a.tmps j = yieldS ops s j:=by
 unfold Go.yielded yieldS
 cases ho:ops[j]? with
 | none => simp
 | some o =>
  cases hd:o.dst with
  | none => simp [hd]
  | some t =>
   have hm:o ∈ ops.toList:=by
    rw [Array.mem_toList_iff]; exact Array.mem_of_getElem? ho
   have ht:=hn o hm t hd
   have hv:=h.val t
   simp only [Option.bind_some,hd]
   rw [Array.getD_eq_getD_getElem?] at hv
   rw [← h.sz] at ht
   rw [Array.getElem?_eq_getElem ht] at hv ⊢
   simp only [Option.getD_some] at hv
   rw [hv]
   cases s t <;> rfl
theorem okOps_spec {n:Nat} {ops:Array Oper} (h:okOps n ops = true):∀ o ∈ ops.toList,∀ t,o.dst = some t → t < n:=by
 intro o ho t ht
 have:=List.all_eq_true.1 h o ho
 simpa [ht] using this
theorem Lift.mk {n:Nat} {Q:Ex → St → World → Prop} {x:Ex} {s:St} {a:Act} {w:World} (hr:Rep n s a) (h:Q x s w):Lift n Q x.toExit a w:=⟨x,s,rfl,hr,h⟩
section
variable {P:Program} {n:Nat}
theorem wp_of_vcOp {o:Oper} {s:St} {a:Act} {w:World} {K:St → World → Prop} {K':Act → World → Prop} {Q:Exit → Act → World → Prop} (hr:Rep n s a) (hd:∀ t,o.dst = some t → t < n)
  (hK:∀ s a w,Rep n s a → K s w → K' a w) (h:vcOp P o s w K):o.wp P a w K' Q:=by
 unfold Oper.wp
 unfold vcOp at h
 rw [hr.eval]
 generalize (execOp (ev s) o).run P w = r at *
 cases r with
 | ok x w' =>
  cases x <;> simp only [uponS] at h <;> simp only [Oper.upon]
  case value v => exact hK _ _ _ (hr.put hd v) h
  case skip => exact hK _ _ _ (hr.put hd _) h
  case enter f args =>
   refine Calls.mono h ?_
   rintro e w'' ⟨v,rfl,hv⟩
   exact hK _ _ _ (hr.put hd v) hv
 | halt x w' => simp only [uponS] at h
theorem wp_of_vcG {ops:Array Oper} {o:Oper} {s:St} {a:Act} {w:World} {K:St → World → Prop} {K':Act → World → Prop} {Q:Exit → Act → World → Prop} (hr:Rep n s a) (hn:∀ o ∈ ops.toList,∀ t,o.dst = some t → t < n)
  (hd:∀ t,o.dst = some t → t < n) (hK:∀ s a w,Rep n s a → K s w → K' a w) (h:vcG P ops o s w K) :
  if Region.wanted o (yielded ops a.tmps) then o.wp P a w K' Q ∨ (o.asks P a w ∧ LetsOut Q) else K' (a.put o.dst undef) w:=by
 unfold Region.wanted
 unfold vcG at h
 cases hg:o.guard with
 | none => simp only [hg] at h; simp only [if_true]; exact .inl (wp_of_vcOp hr hd hK h)
 | some p =>
  obtain ⟨j,want⟩:=p
  simp only [hg] at h
  simp only [hr.yielded ops hn j]
  by_cases e:yieldS ops s j = some want
  ·rw [if_pos e] at h; simp only [e,beq_self_eq_true,if_true]; exact .inl (wp_of_vcOp hr hd hK h)
  ·rw [if_neg e] at h
   rw [if_neg (by simpa using e)]
   exact hK _ _ _ (hr.put hd _) h
theorem wpList_of_vcOps {ops:Array Oper} {K:St → World → Prop} {Q:Exit → Act → World → Prop} (hn:∀ o ∈ ops.toList,∀ t,o.dst = some t → t < n) (hK:∀ s a w,Rep n s a → K s w → Q .normal a w) :
  ∀ (l:List Oper) (s:St) (a:Act) (w:World),(∀ o ∈ l,o ∈ ops.toList) → Rep n s a → vcOps P ops K l s w → wpList P ops Q l a w
 | [],_,_,_,_,hr,h => hK _ _ _ hr h
 | o :: l,_,_,_,hl,hr,h => wp_of_vcG hr hn (hn o (hl o (List.mem_cons_self ..))) (fun _ _ _ hr h => wpList_of_vcOps hn hK l _ _ _ (fun o ho => hl o (List.mem_cons_of_mem _ ho)) hr h) h
theorem wpAny_of_anyS {ops:Array Oper} {K:St → World → Prop} {Q:Exit → Act → World → Prop} (hn:∀ o ∈ ops.toList,∀ t,o.dst = some t → t < n) (hK:∀ s a w,Rep n s a → K s w → Q .normal a w) :
  ∀ (fuel:Nat) (listed:Array Bool) (s:St) (a:Act) (w:World),Rep n s a → anyS P ops K fuel listed s w → wpAny P .any ops Q fuel listed a w
 | 0,_,_,_,_,hr,h => ⟨h.1,hK _ _ _ hr h.2⟩
 | fuel + 1,listed,s,a,w,hr,h => ⟨fun h0 => hK s a w hr (h.1 h0),fun i hi => by
   have h1:=h.2 i hi
   unfold wpOp
   cases ho:ops[i]? with
   | none => simp only [ho] at h1 ⊢; exact wpAny_of_anyS hn hK fuel _ s a w hr h1
   | some o =>
    simp only [ho] at h1 ⊢
    exact wp_of_vcG hr hn (hn o (by rw [Array.mem_toList_iff]; exact Array.mem_of_getElem? ho)) (fun _ _ _ hr h => wpAny_of_anyS hn hK fuel _ _ _ _ hr h) h1⟩
theorem vcC_sound (hm:P.follows .mixedOrders = true):∀ (c:Code),okC n c = true → ∀ (Q:Ex → St → World → Prop) (s:St) (a:Act) (w:World),Rep n s a → vcC P c Q s w → c.wp P (Lift n Q) a w:=by
 intro c
 induction c with
 | skip => intro _ Q s a w hr h; exact wp_skip (Lift.mk (x:=.normal) hr h)
 | region id ops draw =>
  intro hc Q s a w hr h
  have hn:=okOps_spec (n:=n) (ops:=ops) hc
  cases draw with
  | false => exact wp_region_list (wpList_of_vcOps hn (fun _ _ _ hr h => Lift.mk (x:=.normal) hr h) _ s a w (fun _ h => h) hr h)
  | true => exact wp_region_any hm (wpAny_of_anyS hn (fun _ _ _ hr h => Lift.mk (x:=.normal) hr h) _ _ s a _ hr h)
 | seq x y hx hy =>
  intro hc Q s a w hr h
  simp only [okC,Bool.and_eq_true] at hc
  refine wp_seq (wp_mono (hx hc.1 _ s a w hr h) ?_)
  rintro e a' w' ⟨x',s',rfl,hr',hq⟩
  cases x' <;> simp only [thenS] at hq <;> simp only [Ex.toExit,Exit.then]
  ·exact hy hc.2 _ s' a' w' hr' hq
  ·exact ⟨.exit _,s',rfl,hr',hq⟩
  ·exact ⟨.goto _,s',rfl,hr',hq⟩
  ·exact ⟨.ret,s',rfl,hr',hq⟩
 | cond c x y hx hy =>
  intro hc Q s a w hr h
  simp only [okC,Bool.and_eq_true] at hc
  obtain ⟨t,ht,h1,h2⟩:=h
  refine wp_cond (t:=t) (by rw [hr.eval]; exact ht) ?_
  cases t with
  | true => exact hx hc.1 _ s a w hr (h1 rfl)
  | false => exact hy hc.2 _ s a w hr (h2 rfl)
 | block id c hx =>
  intro hc Q s a w hr h
  refine wp_block (wp_mono (hx hc _ s a w hr h) ?_)
  rintro e a' w' ⟨x',s',rfl,hr',hq⟩
  cases x' <;> simp only [blockS] at hq <;> simp only [Ex.toExit,Exit.inBlock]
  ·exact ⟨.normal,s',rfl,hr',hq⟩
  ·rename_i id'
   by_cases e:id' = id
   ·rw [if_pos e] at hq; rw [if_pos e]; exact ⟨.normal,s',rfl,hr',hq⟩
   ·rw [if_neg e] at hq; rw [if_neg e]; exact ⟨.exit _,s',rfl,hr',hq⟩
  ·exact ⟨.goto _,s',rfl,hr',hq⟩
  ·exact ⟨.ret,s',rfl,hr',hq⟩
 | loop c hx =>
  intro hc Q s a w hr h
  obtain ⟨I,m,h0,hround⟩:=h
  refine wp_loop (fun a w => Rep n (fun i => a.tmps.getD i undef) a ∧ I (fun i => a.tmps.getD i undef) w) (fun a w => m (fun i => a.tmps.getD i undef) w) ?_ ?_
  ·have e:(fun i => a.tmps.getD i undef) = s:=funext hr.val
   rw [e]; exact ⟨hr,h0⟩
  ·rintro a' w' ⟨hr',hI⟩
   refine wp_mono (hx hc _ _ a' w' hr' (hround _ _ hI)) ?_
   rintro e a'' w'' ⟨x',s',rfl,hr'',hq⟩
   cases x' <;> simp only [thenS] at hq <;> simp only [Ex.toExit,Exit.then]
   ·have e:(fun i => a''.tmps.getD i undef) = s':=funext hr''.val
    rw [e]
    exact ⟨⟨hr'',hq.1⟩,hq.2⟩
   ·exact ⟨.exit _,s',rfl,hr'',hq⟩
   ·exact ⟨.goto _,s',rfl,hr'',hq⟩
   ·exact ⟨.ret,s',rfl,hr'',hq⟩
 | exit id => intro _ Q s a w hr h; exact wp_exit (Lift.mk (x:=.exit id) hr h)
 | goto l => intro _ Q s a w hr h; exact wp_goto (Lift.mk (x:=.goto l) hr h)
 | ret => intro _ Q s a w hr h; exact wp_ret (Lift.mk (x:=.ret) hr h)
 | label l => intro _ Q s a w hr h; exact wp_label (Lift.mk (x:=.normal) hr h)
 | scope c hx =>
  intro hc Q s a w hr h
  refine wp_mono (h n a hc hr) ?_
  rintro e a' w' ⟨x',s',rfl,hr',hq⟩
  exact ⟨x',s',rfl,hr',hq.2⟩
 | _ => intros; contradiction
end
/-! ### Monotone; and what is not written stays -/
section
variable {P:Program}
theorem vcOp_mono {o:Oper} {s:St} {w:World} {K K':St → World → Prop} (h:vcOp P o s w K) (hK:∀ s w,K s w → K' s w):vcOp P o s w K':=by
 unfold vcOp at *
 generalize (execOp (ev s) o).run P w = r at *
 cases r with
 | ok x w' =>
  cases x <;> simp only [uponS] at h ⊢
  ·exact hK _ _ h
  ·exact hK _ _ h
  ·exact h.mono fun v w' hv => hK _ _ hv
 | halt x w' => exact h
theorem Same.refl (ws:List Nat) (s:St):Same ws s s:=fun _ _ => rfl
theorem Same.put {ws:List Nat} {s s':St} (h:Same ws s s') {d:Option Tmp} (hd:∀ t,d = some t → t ∈ ws) (v:Value):Same ws s (putS s' d v):=by
 intro i hi
 cases d with
 | none => exact h i hi
 | some t =>
  have:i ≠ t:=fun e => hi (e ▸ hd t rfl)
  simp only [putS,upd,if_neg this]
  exact h i hi
theorem vcOp_same {ws:List Nat} {s0:St} {o:Oper} {s:St} {w:World} {K:St → World → Prop} (hs:Same ws s0 s) (hd:∀ t,o.dst = some t → t ∈ ws) (h:vcOp P o s w K):vcOp P o s w (fun s' w' => Same ws s0 s' ∧ K s' w'):=by
 unfold vcOp at *
 generalize (execOp (ev s) o).run P w = r at *
 cases r with
 | ok x w' =>
  cases x <;> simp only [uponS] at h ⊢
  ·exact ⟨hs.put hd _,h⟩
  ·exact ⟨hs.put hd _,h⟩
  ·exact h.mono fun v w' hv => ⟨hs.put hd _,hv⟩
 | halt x w' => exact h
theorem vcG_mono {ops:Array Oper} {o:Oper} {s:St} {w:World} {K K':St → World → Prop} (h:vcG P ops o s w K) (hK:∀ s w,K s w → K' s w):vcG P ops o s w K':=by
 unfold vcG at *
 split
 ·rename_i hg; simp only [hg] at h; exact vcOp_mono h hK
 ·rename_i hg; simp only [hg] at h
  split
  ·rename_i e; rw [if_pos e] at h; exact vcOp_mono h hK
  ·rename_i e; rw [if_neg e] at h; exact hK _ _ h
theorem vcG_same {ws:List Nat} {s0:St} {ops:Array Oper} {o:Oper} {s:St} {w:World} {K:St → World → Prop} (hs:Same ws s0 s) (hd:∀ t,o.dst = some t → t ∈ ws) (h:vcG P ops o s w K) :
  vcG P ops o s w (fun s' w' => Same ws s0 s' ∧ K s' w'):=by
 unfold vcG at *
 split
 ·rename_i hg; simp only [hg] at h; exact vcOp_same hs hd h
 ·rename_i hg; simp only [hg] at h
  split
  ·rename_i e; rw [if_pos e] at h; exact vcOp_same hs hd h
  ·rename_i e; rw [if_neg e] at h; exact ⟨hs.put hd _,h⟩
theorem vcOps_mono {ops:Array Oper} {K K':St → World → Prop} (hK:∀ s w,K s w → K' s w):∀ (l:List Oper) (s:St) (w:World),vcOps P ops K l s w → vcOps P ops K' l s w
 | [],s,w,h => hK s w h
 | _ :: l,_,_,h => vcG_mono h fun s w h => vcOps_mono hK l s w h
theorem vcOps_same {ws:List Nat} {s0:St} {ops:Array Oper} {K:St → World → Prop}:∀ (l:List Oper) (s:St) (w:World),(∀ o ∈ l,∀ t,o.dst = some t → t ∈ ws) → Same ws s0 s → vcOps P ops K l s w → vcOps P ops (fun s' w' => Same ws s0 s' ∧ K s' w') l s w
 | [],_,_,_,hs,h => ⟨hs,h⟩
 | o :: l,_,_,hl,hs,h => vcG_mono (vcG_same hs (hl o (List.mem_cons_self ..)) h) fun s w h => vcOps_same l s w (fun o ho => hl o (List.mem_cons_of_mem _ ho)) h.1 h.2
theorem anyS_mono {ops:Array Oper} {K K':St → World → Prop} (hK:∀ s w,K s w → K' s w):∀ (fuel:Nat) (listed:Array Bool) (s:St) (w:World),anyS P ops K fuel listed s w → anyS P ops K' fuel listed s w
 | 0,_,s,w,h => ⟨h.1,hK s w h.2⟩
 | fuel + 1,listed,s,w,h => ⟨fun h0 => hK s w (h.1 h0),fun i hi => by
   have h1:=h.2 i hi
   cases ho:ops[i]? with
   | none => simp only [ho] at h1 ⊢; exact anyS_mono hK fuel _ s w h1
   | some o => simp only [ho] at h1 ⊢; exact vcG_mono h1 fun s w h => anyS_mono hK fuel _ s w h⟩
theorem anyS_same {ws:List Nat} {s0:St} {ops:Array Oper} {K:St → World → Prop} (hl:∀ o ∈ ops.toList,∀ t,o.dst = some t → t ∈ ws):∀ (fuel:Nat) (listed:Array Bool) (s:St) (w:World),Same ws s0 s → anyS P ops K fuel listed s w →
  anyS P ops (fun s' w' => Same ws s0 s' ∧ K s' w') fuel listed s w
 | 0,_,_,_,hs,h => ⟨h.1,hs,h.2⟩
 | fuel + 1,listed,s,w,hs,h => ⟨fun h0 => ⟨hs,h.1 h0⟩,fun i hi => by
   have h1:=h.2 i hi
   cases ho:ops[i]? with
   | none => simp only [ho] at h1 ⊢; exact anyS_same hl fuel _ s w hs h1
   | some o =>
    simp only [ho] at h1 ⊢
    exact vcG_mono (vcG_same hs (hl o (by rw [Array.mem_toList_iff]; exact Array.mem_of_getElem? ho)) h1) fun s w h => anyS_same hl fuel _ s w h.1 h.2⟩
theorem vcC_mono:∀ (c:Code) (Q Q':Ex → St → World → Prop),(∀ e s w,Q e s w → Q' e s w) → ∀ (s:St) (w:World),vcC P c Q s w → vcC P c Q' s w:=by
 intro c
 induction c with
 | skip => intro Q Q' hq s w h; exact hq _ _ _ h
 | region id ops draw =>
  intro Q Q' hq s w h
  cases draw with
  | false => exact vcOps_mono (hq _) _ s w h
  | true => exact anyS_mono (hq _) _ _ s _ h
 | seq x y hx hy =>
  intro Q Q' hq s w h
  refine hx _ _ (fun e s w h => ?_) s w h
  cases e <;> simp only [thenS] at h ⊢
  ·exact hy _ _ hq s w h
  all_goals exact hq _ _ _ h
 | cond c x y hx hy =>
  intro Q Q' hq s w h
  obtain ⟨t,ht,h1,h2⟩:=h
  exact ⟨t,ht,fun e => hx _ _ hq s w (h1 e),fun e => hy _ _ hq s w (h2 e)⟩
 | block id c hx =>
  intro Q Q' hq s w h
  refine hx _ _ (fun e s w h => ?_) s w h
  cases e <;> simp only [blockS] at h ⊢
  ·exact hq _ _ _ h
  ·split
   ·rename_i e; rw [if_pos e] at h; exact hq _ _ _ h
   ·rename_i e; rw [if_neg e] at h; exact hq _ _ _ h
  all_goals exact hq _ _ _ h
 | loop c hx =>
  intro Q Q' hq s w h
  obtain ⟨I,m,h0,hr⟩:=h
  refine ⟨I,m,h0,fun s' w' hI => hx _ _ (fun e s w h => ?_) s' w' (hr s' w' hI)⟩
  cases e <;> simp only [thenS] at h ⊢
  ·exact h
  all_goals exact hq _ _ _ h
 | exit id => intro Q Q' hq s w h; exact hq _ _ _ h
 | goto l => intro Q Q' hq s w h; exact hq _ _ _ h
 | ret => intro Q Q' hq s w h; exact hq _ _ _ h
 | label l => intro Q Q' hq s w h; exact hq _ _ _ h
 | scope c hx =>
  intro Q Q' hq s w h n a hc hr
  refine wp_mono (h n a hc hr) ?_
  rintro e a' w' ⟨x',s',rfl,hr',hq'⟩
  exact ⟨x',s',rfl,hr',hq'.1,hq _ _ _ hq'.2⟩
 | _ => intros; contradiction
theorem Same.trans' {ws ws':List Nat} {s s1 s2:St} (h:Same ws s s1) (k:Same ws' s1 s2) (hw:∀ t ∈ ws',t ∈ ws):Same ws s s2:=fun i hi => (k i fun h' => hi (hw i h')).trans (h i hi)
theorem vcC_same {ws:List Nat} {s0:St}:∀ (c:Code),(∀ t ∈ writes c,t ∈ ws) → ∀ (Q:Ex → St → World → Prop) (s:St) (w:World),Same ws s0 s → vcC P c Q s w → vcC P c (fun e s' w' => Same ws s0 s' ∧ Q e s' w') s w:=by
 intro c
 induction c with
 | skip => intro _ Q s w hs h; exact ⟨hs,h⟩
 | region id ops draw =>
  intro hw Q s w hs h
  have hl:∀ o ∈ ops.toList,∀ t,o.dst = some t → t ∈ ws:=fun o ho t ht => hw t (List.mem_filterMap.2 ⟨o,ho,ht⟩)
  cases draw with
  | false => exact vcOps_same _ s w hl hs h
  | true => exact anyS_same hl _ _ s _ hs h
 | seq x y hx hy =>
  intro hw Q s w hs h
  refine vcC_mono x _ _ (fun e s w h => ?_) s w (hx (fun t ht => hw t (List.mem_append_left _ ht)) _ s w hs h)
  obtain ⟨hs',h⟩:=h
  cases e <;> simp only [thenS] at h ⊢
  ·exact hy (fun t ht => hw t (List.mem_append_right _ ht)) _ s w hs' h
  all_goals exact ⟨hs',h⟩
 | cond c x y hx hy =>
  intro hw Q s w hs h
  obtain ⟨t,ht,h1,h2⟩:=h
  exact ⟨t,ht,fun e => hx (fun t ht => hw t (List.mem_append_left _ ht)) _ s w hs (h1 e),fun e => hy (fun t ht => hw t (List.mem_append_right _ ht)) _ s w hs (h2 e)⟩
 | block id c hx =>
  intro hw Q s w hs h
  refine vcC_mono c _ _ (fun e s w h => ?_) s w (hx hw _ s w hs h)
  obtain ⟨hs',h⟩:=h
  cases e <;> simp only [blockS] at h ⊢
  ·exact ⟨hs',h⟩
  ·split
   ·rename_i e; rw [if_pos e] at h; exact ⟨hs',h⟩
   ·rename_i e; rw [if_neg e] at h; exact ⟨hs',h⟩
  all_goals exact ⟨hs',h⟩
 | loop c hx =>
  intro hw Q s w hs h
  obtain ⟨I,m,h0,hr⟩:=h
  refine ⟨fun s w => Same ws s0 s ∧ I s w,m,⟨hs,h0⟩,fun s' w' hI => ?_⟩
  refine vcC_mono c _ _ (fun e s w h => ?_) s' w' (hx hw _ s' w' hI.1 (hr s' w' hI.2))
  obtain ⟨hs',h⟩:=h
  cases e <;> simp only [thenS] at h ⊢
  ·exact ⟨⟨hs',h.1⟩,h.2⟩
  all_goals exact ⟨hs',h⟩
 | exit id => intro _ Q s w hs h; exact ⟨hs,h⟩
 | goto l => intro _ Q s w hs h; exact ⟨hs,h⟩
 | ret => intro _ Q s w hs h; exact ⟨hs,h⟩
 | label l => intro _ Q s w hs h; exact ⟨hs,h⟩
 | scope c hx =>
  intro hw Q s w hs h n a hc hr
  refine wp_mono (h n a hc hr) ?_
  rintro e a' w' ⟨x',s',rfl,hr',hq'⟩
  exact ⟨x',s',rfl,hr',hq'.1,hs.trans' hq'.1 hw,hq'.2⟩
 | _ => intros; contradiction
theorem mix_of_same {ws:List Nat} {s s':St} (h:Same ws s s'):mix ws s s' = s':=by
 funext i
 unfold mix
 by_cases e:ws.contains i
 ·rw [if_pos e]
 ·rw [if_neg e]; exact (h i (by simpa using e)).symm
/-- **A LOOP**: the relation speaks of the slots that the body writes ('f') and of the world; all other slots are what they were. -/
theorem vc_loop {c:Code} {Q:Ex → St → World → Prop} {s:St} {w:World} (ws:List Nat) (hws:(writes c).all ws.contains = true) (I:St → World → Prop) (m:St → World → Nat) (h0:I s w)
  (hr:∀ f w',I f w' → vcC P c (thenS (fun s'' w'' => I s'' w'' ∧ m s'' w'' < m f w') Q) (mix ws s f) w'):vcC P (.loop c) Q s w:=by
 have hws':∀ t ∈ writes c,t ∈ ws:=fun t ht => by simpa using List.all_eq_true.1 hws t ht
 refine ⟨fun s' w' => Same ws s s' ∧ I s' w',m,⟨Same.refl _ _,h0⟩,fun s' w' hI' => ?_⟩
 have h1:=hr s' w' hI'.2
 rw [mix_of_same hI'.1] at h1
 refine vcC_mono c _ _ (fun e s'' w'' h => ?_) s' w' (vcC_same c hws' _ s' w' hI'.1 h1)
 obtain ⟨hs',h⟩:=h
 cases e <;> simp only [thenS] at h ⊢
 ·exact ⟨⟨hs',h.1⟩,h.2⟩
 all_goals exact h
/-- What is asked where a loop is left by one jump: M; else Q. -/
def exitS (id:Nat) (M:St → World → Prop) (Q:Ex → St → World → Prop):Ex → St → World → Prop
 | .exit id',s,w => if id' = id then M s w else Q (.exit id') s w
 | e,s,w => Q e s w
/-- **A LOOP that is left in more places than one**: M holds at each. -/
theorem vc_loopx {c:Code} {Q:Ex → St → World → Prop} {s:St} {w:World} (id:Nat) (ws:List Nat) (hws:(writes c).all ws.contains = true) (I:St → World → Prop) (m:St → World → Nat) (M:St → World → Prop) (h0:I s w)
  (hr:∀ f w',I f w' → vcC P c (thenS (fun s'' w'' => I s'' w'' ∧ m s'' w'' < m f w') (exitS id M Q)) (mix ws s f) w') (hM:∀ f w',M f w' → Q (.exit id) (mix ws s f) w'):vcC P (.loop c) Q s w:=by
 have hws':∀ t ∈ writes c,t ∈ ws:=fun t ht => by simpa using List.all_eq_true.1 hws t ht
 refine ⟨fun s' w' => Same ws s s' ∧ I s' w',m,⟨Same.refl _ _,h0⟩,fun s' w' hI' => ?_⟩
 have h1:=hr s' w' hI'.2
 rw [mix_of_same hI'.1] at h1
 refine vcC_mono c _ _ (fun e s'' w'' h => ?_) s' w' (vcC_same c hws' _ s' w' hI'.1 h1)
 obtain ⟨hs',h⟩:=h
 cases e <;> simp only [thenS] at h ⊢
 ·exact ⟨⟨hs',h.1⟩,h.2⟩
 ·rename_i id'
  simp only [exitS] at h
  split at h
  ·rename_i e
   subst e
   have:=hM s'' w'' h
   rwa [mix_of_same hs'] at this
  ·exact h
 all_goals exact h
/-- What is asked where a scope's piece is left: by a jump to its label: J; by no other jump. -/
def jumpS (l:Nat) (J:St → World → Prop) (Q:Ex → St → World → Prop):Ex → St → World → Prop
 | .goto l',s,w => l' = l ∧ J s w
 | e,s,w => Q e s w
def nogoS (Q:Ex → St → World → Prop):Ex → St → World → Prop
 | .goto _,_,_ => False
 | e,s,w => Q e s w
theorem okC_find {n:Nat}:∀ (c:Code) {l:Nat} {rest:Code},okC n c = true → findLabel c l = some rest → okC n rest = true:=by
 intro c
 induction c with
 | seq a b ha hb =>
  intro l rest hc hf
  simp only [okC,Bool.and_eq_true] at hc
  unfold findLabel at hf
  cases h:findLabel a l with
  | some r =>
   simp only [h] at hf
   cases hf
   simp only [okC,Bool.and_eq_true]
   exact ⟨ha hc.1 h,hc.2⟩
  | none => simp only [h] at hf; exact hb hc.2 hf
 | label l' =>
  intro l rest hc hf
  unfold findLabel at hf
  split at hf
  ·cases hf; rfl
  ·cases hf
 | _ => intro l rest hc hf; simp [findLabel] at hf
theorem writes_find:∀ (c:Code) {l:Nat} {rest:Code},findLabel c l = some rest → ∀ t ∈ writes rest,t ∈ writes c:=by
 intro c
 induction c with
 | seq a b ha hb =>
  intro l rest hf t ht
  unfold findLabel at hf
  cases h:findLabel a l with
  | some r =>
   simp only [h] at hf
   cases hf
   simp only [writes,List.mem_append] at ht ⊢
   exact ht.imp (ha h t) id
  | none => simp only [h] at hf; exact List.mem_append_right _ (hb hf t ht)
 | label l' =>
  intro l rest hf t ht
  unfold findLabel at hf
  split at hf
  ·cases hf; simp [writes] at ht
  ·cases hf
 | _ => intro l rest hf; simp [findLabel] at hf
/-- **A SCOPE**: some relation holds at each jump to its one label, and a number falls. -/
theorem vc_scope (hm:P.follows .mixedOrders = true) {c rest:Code} {Q:Ex → St → World → Prop} {s:St} {w:World} (l:Nat) (hf:findLabel c l = some rest) (ws:List Nat) (hws:(writes c).all ws.contains = true) (J:St → World → Prop) (m:St → World → Nat)
  (h0:vcC P c (jumpS l J Q) s w) (hr:∀ f w',J f w' → vcC P rest (jumpS l (fun s'' w'' => J s'' w'' ∧ m s'' w'' < m f w') Q) (mix ws s f) w'):vcC P (.scope c) Q s w:=by
 intro n a hc hr0
 have hws':∀ t ∈ writes c,t ∈ ws:=fun t ht => by simpa using List.all_eq_true.1 hws t ht
 refine wp_scope_jumps l (fun a w => ∃ s',Rep n s' a ∧ Same (writes c) s s' ∧ J s' w) (fun a w => m (fun i => a.tmps.getD i undef) w) hf ?_ ?_
 ·refine wp_mono (vcC_sound (n:=n) hm c hc _ s a w hr0 (vcC_same c (fun t ht => ht) _ s w (Same.refl _ s) h0)) ?_
  rintro e a' w' ⟨x',s',rfl,hr',hs',hq⟩
  cases x' <;> simp only [jumpS] at hq <;> simp only [Ex.toExit,Exit.jump]
  ·exact ⟨.normal,s',rfl,hr',hs',hq⟩
  ·exact ⟨.exit _,s',rfl,hr',hs',hq⟩
  ·exact ⟨hq.1,s',hr',hs',hq.2⟩
  ·exact ⟨.ret,s',rfl,hr',hs',hq⟩
 ·rintro a1 w1 ⟨s1,hr1,hs1,hJ⟩
  have h1:=hr s1 w1 hJ
  rw [mix_of_same (fun i hi => hs1 i fun h' => hi (hws' i h'))] at h1
  have es1:(fun i => a1.tmps.getD i undef) = s1:=funext hr1.val
  refine wp_mono (vcC_sound (n:=n) hm rest (okC_find c hc hf) _ s1 a1 w1 hr1 (vcC_same rest (writes_find c hf) _ s1 w1 (Same.refl _ s1) h1)) ?_
  rintro e a' w' ⟨x',s',rfl,hr',hs',hq⟩
  have hs2:Same (writes c) s s':=hs1.trans' hs' fun t ht => ht
  cases x' <;> simp only [jumpS] at hq <;> simp only [Ex.toExit,Exit.jump]
  ·exact ⟨.normal,s',rfl,hr',hs2,hq⟩
  ·exact ⟨.exit _,s',rfl,hr',hs2,hq⟩
  ·rw [es1,show (fun i => a'.tmps.getD i undef) = s' from funext hr'.val]
   exact ⟨hq.1,⟨s',hr',hs2,hq.2.1⟩,hq.2.2⟩
  ·exact ⟨.ret,s',rfl,hr',hs2,hq⟩
/-- **A JOIN**: what holds behind the first piece however it ends. -/
theorem vc_cut {a b:Code} {Q:Ex → St → World → Prop} {s:St} {w:World} (ws:List Nat) (hws:(writes a).all ws.contains = true) (M:St → World → Prop) (h1:vcC P a (thenS M Q) s w)
  (h2:∀ f w',M f w' → vcC P b Q (mix ws s f) w'):vcC P (.seq a b) Q s w:=by
 have hws':∀ t ∈ writes a,t ∈ ws:=fun t ht => by simpa using List.all_eq_true.1 hws t ht
 refine vcC_mono a _ _ (fun e s' w' h => ?_) s w (vcC_same a hws' _ s w (Same.refl _ _) h1)
 obtain ⟨hs',h⟩:=h
 cases e <;> simp only [thenS] at h ⊢
 ·have h3:=h2 _ _ h
  rwa [mix_of_same hs'] at h3
 all_goals exact h
end
/-! ### A piece of code whose order is drawn: the orders that are to be looked at, as a tree -/
inductive Tr where
 | done
  /-- number i first: it leaves the world alone, and what it yields holds in all worlds that meet S -/
 | take (i:Nat) (t:Tr)
  /-- number i may come up, or one of the rest -/
 | alt (i:Nat) (t:Tr) (rest:Tr)
 | stop
/-- What is read now is read in every world that meets S. -/
def stayR {α:Type} (S:World → Prop) (r:Result α) (f:World → Result α) (K:α → Prop):Prop :=
 match r with
 | .ok v _ => (∀ w1,S w1 → f w1 = .ok v w1) ∧ K v
 | _ => False
def takeV (P:Program) (S:World → Prop) (o:Oper) (s:St) (w:World) (next:St → World → Prop):Prop :=
 stayR S ((execOp (ev s) o).run P w) (fun w1 => (execOp (ev s) o).run P w1) fun x => ∃ v,x = .value v ∧ next (putS s o.dst v) w
def takeG (P:Program) (ops:Array Oper) (S:World → Prop) (o:Oper) (s:St) (w:World) (next:St → World → Prop):Prop :=
 match o.guard with
 | none => takeV P S o s w next
 | some (j,want) => if yieldS ops s j = some want then takeV P S o s w next else next (putS s o.dst undef) w
def vcT (P:Program) (ops:Array Oper) (S:World → Prop) (K:St → World → Prop):Tr → St → World → Prop
 | .done,s,w => K s w
 | .take i t,s,w => ∃ o,ops[i]? = some o ∧ takeG P ops S o s w (vcT P ops S K t)
 | .alt i t rest,s,w => (∃ o,ops[i]? = some o ∧ vcG P ops o s w (fun s' w' => S w' ∧ vcT P ops S K t s' w')) ∧ vcT P ops S K rest s w
 | .stop,_,_ => True
def Tr.heads:Tr → List Nat
 | .alt i _ rest => i :: rest.heads
 | _ => []
def Tr.isAlt:Tr → Bool
 | .alt .. => true
 | .stop => true
 | _ => false
/-- Does the tree bear all orders? -/
def chkT (ops:Array Oper):Nat → Array Bool → Bool → Tr → Bool
 | _,listed,_,.done => Region.ready .any ops listed == []
 | 0,_,_,_ => false
 | n + 1,listed,_,.take i t => (Region.ready .any ops listed).contains i && Region.free .any ops listed i && chkT ops n (listed.setIfInBounds i true) true t
 | n + 1,listed,new,.alt i t rest => (!new || Region.ready .any ops listed == i :: rest.heads) && rest.isAlt && chkT ops n (listed.setIfInBounds i true) true t && chkT ops (n + 1) listed false rest
 | _ + 1,_,new,.stop => !new
section
variable {P:Program} {ops:Array Oper}
def anyH (P:Program) (ops:Array Oper) (S:World → Prop) (K:St → World → Prop):Nat → Array Bool → St → World → Prop
 | 0,listed,s,w => Region.ready .any ops listed = [] ∧ K s w
 | fuel + 1,listed,s,w =>
  (Region.ready .any ops listed = [] → K s w) ∧
  ∀ i ∈ Region.ready .any ops listed,match ops[i]? with
   | none => anyH P ops S K fuel (listed.setIfInBounds i true) s w
   | some o => vcG P ops o s w (fun s' w' => S w' ∧ anyH P ops S K fuel (listed.setIfInBounds i true) s' w')
theorem anyS_of_anyH {S:World → Prop} {K:St → World → Prop}:∀ (fuel:Nat) (listed:Array Bool) (s:St) (w:World),anyH P ops S K fuel listed s w → anyS P ops K fuel listed s w
 | 0,_,_,_,h => h
 | fuel + 1,listed,s,w,h => ⟨h.1,fun i hi => by
   have h1:=h.2 i hi
   cases ho:ops[i]? with
   | none => simp only [ho] at h1 ⊢; exact anyS_of_anyH fuel _ s w h1
   | some o => simp only [ho] at h1 ⊢; exact vcG_mono h1 fun s w h => anyS_of_anyH fuel _ s w h.2⟩
theorem putS_comm (s:St) {x y:Option Tmp} (v u:Value) (h:∀ d,x = some d → y ≠ some d):putS (putS s x v) y u = putS (putS s y u) x v:=by
 cases x with
 | none => rfl
 | some d =>
  cases y with
  | none => rfl
  | some e =>
   have hne:d ≠ e:=fun he => h d rfl (he ▸ rfl)
   funext i
   simp only [putS,upd]
   by_cases h1:i = d
   ·subst h1; simp [hne]
   ·simp [h1]
theorem ev_put {s:St} {dst:Option Tmp} {v:Value} {x:Operand} (h:∀ d,dst = some d → x ≠ .tmp d):ev (putS s dst v) x = ev s x:=by
 cases dst with
 | none => rfl
 | some d =>
  cases x with
  | tmp t =>
   have hne:t ≠ d:=fun e => h d rfl (e ▸ rfl)
   simp [ev,putS,upd,hne]
  | _ => rfl
theorem execOp_putS (o:Oper) (hs:∀ cs b,o.op ≠ .select cs b) (s:St) (dst:Option Tmp) (v:Value) (h:∀ d,dst = some d → d ∉ o.looksAt ops):execOp (ev (putS s dst v)) o = execOp (ev s) o :=
 execOp_congr o hs fun x hx => ev_put fun d hd hxd => h d hd (by
  subst hxd
  exact List.mem_append_left _ (List.mem_filterMap.2 ⟨.tmp d,by simpa using hx,rfl⟩))
theorem yieldS_putS (o:Oper) (s:St) (dst:Option Tmp) (v:Value) (h:∀ d,dst = some d → d ∉ o.looksAt ops) {j:Nat} {b:Bool} (hg:o.guard = some (j,b)):yieldS ops (putS s dst v) j = yieldS ops s j:=by
 cases dst with
 | none => rfl
 | some d =>
  have h1:=h d rfl
  unfold yieldS
  cases hj:(ops[j]?).bind (·.dst) with
  | none => rfl
  | some e =>
   have hne:e ≠ d:=by
    rintro rfl
    refine h1 (List.mem_append_right _ ?_)
    simp [hg,hj]
   simp [putS,upd,hne]
/-- In these slots, in every world that meets S, the operation yields v and does nothing else. -/
def YieldsS (P:Program) (ops:Array Oper) (S:World → Prop) (o:Oper) (v:Value) (s:St):Prop :=
 match o.guard with
 | none => ∀ w1,S w1 → (execOp (ev s) o).run P w1 = .ok (.value v) w1
 | some (j,want) => if yieldS ops s j = some want then ∀ w1,S w1 → (execOp (ev s) o).run P w1 = .ok (.value v) w1 else v = undef
theorem YieldsS.put {S:World → Prop} {o:Oper} {v:Value} {s:St} (hy:YieldsS P ops S o v s) (hs:∀ cs b,o.op ≠ .select cs b) (dst:Option Tmp) (u:Value) (h:∀ d,dst = some d → d ∉ o.looksAt ops):YieldsS P ops S o v (putS s dst u):=by
 unfold YieldsS at *
 split
 ·rename_i hg; simp only [hg] at hy; rw [execOp_putS (ops:=ops) o hs s dst u h]; exact hy
 ·rename_i j b hg
  simp only [hg] at hy
  rw [yieldS_putS o s dst u h hg,execOp_putS (ops:=ops) o hs s dst u h]
  exact hy
theorem YieldsS.vcG {S:World → Prop} {o:Oper} {v:Value} {s:St} {w:World} {K:St → World → Prop} (hy:YieldsS P ops S o v s) (hS:S w) (h:K (putS s o.dst v) w):vcG P ops o s w K:=by
 unfold YieldsS at hy
 unfold Vc.vcG
 split
 ·rename_i hg; simp only [hg] at hy; unfold vcOp; rw [hy w hS]; exact h
 ·rename_i j b hg
  simp only [hg] at hy
  split
  ·rename_i e; rw [if_pos e] at hy; unfold vcOp; rw [hy w hS]; exact h
  ·rename_i e; rw [if_neg e] at hy; subst hy; exact h
theorem vcOp_putS {oi oj:Oper} {v:Value} (hap:oi.apart ops oj = true) (hsj:∀ cs b,oj.op ≠ .select cs b) {K:St → World → Prop} {s:St} {w:World} (h:vcOp P oj (putS s oi.dst v) w K):vcOp P oj s w (fun s' w' => K (putS s' oi.dst v) w'):=by
 obtain ⟨h1,h2,h3⟩:=Oper.apart_spec hap
 unfold vcOp at *
 rw [execOp_putS (ops:=ops) oj hsj s oi.dst v h1] at h
 generalize (execOp (ev s) oj).run P w = r at *
 cases r with
 | ok x w' =>
  cases x <;> simp only [uponS] at h ⊢
  ·rw [putS_comm s v _ h2] at h; exact h
  ·rw [putS_comm s v _ h2] at h; exact h
  ·exact h.mono fun u w' hu => by rw [putS_comm s v _ h2] at hu; exact hu
 | halt x w' => exact h
theorem vcG_putS {S:World → Prop} {oi oj:Oper} {v:Value} (hap:oi.apart ops oj = true) (hsi:∀ cs b,oi.op ≠ .select cs b) (hsj:∀ cs b,oj.op ≠ .select cs b) {K:St → World → Prop} {s:St} {w:World}
  (hy:YieldsS P ops S oi v s) (h:vcG P ops oj (putS s oi.dst v) w K):vcG P ops oj s w (fun s' w' => YieldsS P ops S oi v s' ∧ K (putS s' oi.dst v) w'):=by
 obtain ⟨h1,h2,h3⟩:=Oper.apart_spec hap
 have hy':∀ s0 w0 (K0:St → World → Prop),YieldsS P ops S oi v s0 → vcOp P oj s0 w0 K0 → vcOp P oj s0 w0 (fun s' w' => YieldsS P ops S oi v s' ∧ K0 s' w'):=by
  intro s0 w0 K0 hy0 h0
  unfold vcOp at *
  generalize (execOp (ev s0) oj).run P w0 = r at *
  cases r with
  | ok x w' =>
   cases x <;> simp only [uponS] at h0 ⊢
   ·exact ⟨hy0.put hsi _ _ h3,h0⟩
   ·exact ⟨hy0.put hsi _ _ h3,h0⟩
   ·exact h0.mono fun u w' hu => ⟨hy0.put hsi _ _ h3,hu⟩
  | halt x w' => exact h0
 unfold Vc.vcG at *
 split
 ·rename_i hg; simp only [hg] at h; exact hy' _ _ _ hy (vcOp_putS hap hsj h)
 ·rename_i j b hg
  simp only [hg] at h
  rw [yieldS_putS oj s oi.dst v h1 hg] at h
  split
  ·rename_i e; rw [if_pos e] at h; exact hy' _ _ _ hy (vcOp_putS hap hsj h)
  ·rename_i e; rw [if_neg e] at h
   rw [putS_comm s v _ h2] at h
   exact ⟨hy.put hsi _ _ h3,h⟩
theorem anyH_first {S:World → Prop} {K:St → World → Prop} {i:Nat} {oi:Oper} {v:Value} (hi:ops[i]? = some oi) (hsel:∀ (j:Nat) (o:Oper) cs b,ops[j]? = some o → o.op ≠ .select cs b) :
  ∀ (fuel:Nat) (listed:Array Bool) (s:St) (w:World),
   (∀ j oj,ops[j]? = some oj → j ≠ i → listed.getD j true = false → (∀ e ∈ oj.after,Region.binds .any e = true → e.on ≠ i) → oi.apart ops oj = true) →
   i ∈ Region.ready .any ops listed → YieldsS P ops S oi v s → S w → anyH P ops S K fuel (listed.setIfInBounds i true) (putS s oi.dst v) w → anyH P ops S K (fuel + 1) listed s w:=by
 intro fuel
 induction fuel with
 | zero =>
  intro listed s w _ hr hy hS H
  refine ⟨fun h => (by rw [h] at hr; cases hr),fun j hj => ?_⟩
  by_cases hji:j = i
  ·subst hji; simp only [hi]; exact hy.vcG hS ⟨hS,H⟩
  ·have:=ready_mono hj hji
   rw [H.1] at this
   cases this
 | succ fuel ih =>
  intro listed s w hfree hr hy hS H
  refine ⟨fun h => (by rw [h] at hr; cases hr),fun j hj => ?_⟩
  by_cases hji:j = i
  ·subst hji; simp only [hi]; exact hy.vcG hS ⟨hS,H⟩
  ·have h1:=H.2 j (ready_mono hj hji)
   obtain ⟨hjun,oj,hoj,hall⟩:=mem_ready.1 hj
   have hnot:∀ e ∈ oj.after,Region.binds .any e = true → e.on ≠ i:=fun e he hb heq => by
    have h1:=hall e he hb
    have h0:=(mem_ready.1 hr).1
    rw [heq] at h1
    rcases Nat.lt_or_ge i listed.size with h' | h'
    ·simp [h'] at h0 h1; rw [h0] at h1; cases h1
    ·simp [Array.getElem?_eq_none h'] at h1
   simp only [hoj] at h1 ⊢
   have h2:=vcG_putS (hfree j oj hoj hji hjun hnot) (fun cs b => hsel i oi cs b hi) (fun cs b => hsel j oj cs b hoj) hy h1
   have hfree':∀ k ok,ops[k]? = some ok → k ≠ i → (listed.setIfInBounds j true).getD k true = false →
     (∀ e ∈ ok.after,Region.binds .any e = true → e.on ≠ i) → oi.apart ops ok = true:=fun k ok hk hki hun hno => by
    refine hfree k ok hk hki ?_ hno
    by_cases hjk:j = k
    ·subst hjk; exact hjun
    ·rw [getD_set_ne true hjk] at hun; exact hun
   refine vcG_mono h2 fun s' w' h3 => ⟨h3.2.1,ih (listed.setIfInBounds j true) s' w' hfree' (ready_mono hr (Ne.symm hji)) h3.1 h3.2.1 ?_⟩
   rw [Array.setIfInBounds_comm _ _ hji]
   exact h3.2.2
theorem takeV_spec {S:World → Prop} {o:Oper} {s:St} {w:World} {next:St → World → Prop} (h:takeV P S o s w next):∃ v,(∀ w1,S w1 → (execOp (ev s) o).run P w1 = .ok (.value v) w1) ∧ next (putS s o.dst v) w:=by
 unfold takeV stayR at h
 split at h
 ·obtain ⟨h1,v,rfl,h2⟩:=h; exact ⟨v,h1,h2⟩
 ·exact h.elim
theorem anyH_of_vcT {S:World → Prop} {K:St → World → Prop} (hsel:Region.noSelect ops = true):∀ (t:Tr) (n:Nat) (listed:Array Bool) (new:Bool) (s:St) (w:World),chkT ops n listed new t = true → S w → vcT P ops S K t s w →
  (new = true → anyH P ops S K n listed s w) ∧
  (t.isAlt = true → ∀ m,n = m + 1 → ∀ i ∈ t.heads,∃ o,ops[i]? = some o ∧ vcG P ops o s w (fun s' w' => S w' ∧ anyH P ops S K m (listed.setIfInBounds i true) s' w')):=by
 intro t
 induction t with
 | done =>
  intro n listed new s w hc _ h
  have h0:Region.ready .any ops listed = []:=by cases n <;> simpa [chkT] using hc
  refine ⟨fun _ => ?_,fun h => by cases h⟩
  cases n with
  | zero => exact ⟨h0,h⟩
  | succ n => exact ⟨fun _ => h,by rw [h0]; simp⟩
 | take i t ih =>
  intro n listed new s w hc hS h
  refine ⟨fun _ => ?_,fun h => by cases h⟩
  cases n with
  | zero => simp [chkT] at hc
  | succ n =>
   simp only [chkT,Bool.and_eq_true] at hc
   obtain ⟨⟨hr,hf⟩,hc⟩:=hc
   obtain ⟨o,ho,h⟩:=h
   have key:∃ v,YieldsS P ops S o v s ∧ vcT P ops S K t (putS s o.dst v) w:=by
    unfold takeG at h
    unfold YieldsS
    cases hg:o.guard with
    | none => simp only [hg] at h; simp only []; exact takeV_spec h
    | some p =>
     obtain ⟨j,b⟩:=p
     simp only [hg] at h
     simp only []
     by_cases e:yieldS ops s j = some b
     ·simp only [if_pos e] at h ⊢; exact takeV_spec h
     ·simp only [if_neg e] at h ⊢; exact ⟨undef,rfl,h⟩
   obtain ⟨v,hy,hK⟩:=key
   exact anyH_first ho (Region.noSelect_spec hsel) n listed s w (Region.free_spec ho hf) (by simpa using hr) hy hS ((ih n _ true _ w hc hS hK).1 rfl)
 | alt i t rest iht ihr =>
  intro n listed new s w hc hS h
  cases n with
  | zero => simp [chkT] at hc
  | succ n =>
   simp only [chkT,Bool.and_eq_true] at hc
   obtain ⟨⟨⟨hr,hal⟩,hct⟩,hcr⟩:=hc
   obtain ⟨⟨o,ho,h1⟩,h2⟩:=h
   have all:∀ i' ∈ (Tr.alt i t rest).heads,∃ o,ops[i']? = some o ∧ vcG P ops o s w (fun s' w' => S w' ∧ anyH P ops S K n (listed.setIfInBounds i' true) s' w'):=by
    intro i' hi'
    simp only [Tr.heads,List.mem_cons] at hi'
    rcases hi' with rfl | hi'
    ·exact ⟨o,ho,vcG_mono h1 fun s' w' h' => ⟨h'.1,(iht n _ true s' w' hct h'.1 h'.2).1 rfl⟩⟩
    ·exact (ihr (n + 1) listed false s w hcr hS h2).2 hal n rfl i' hi'
   refine ⟨fun hnew => ?_,fun _ m hm i' hi' => by cases hm; exact all i' hi'⟩
   subst hnew
   have hr':Region.ready .any ops listed = i :: rest.heads:=by simpa using hr
   refine ⟨(fun h0 => by rw [hr'] at h0; cases h0),fun i' hi' => ?_⟩
   rw [hr'] at hi'
   obtain ⟨o',ho',h'⟩:=all i' hi'
   simp only [ho']
   exact h'
 | stop =>
  intro n listed new s w hc _ _
  refine ⟨fun hnew => ?_,fun _ m _ i hi => by simp [Tr.heads] at hi⟩
  subst hnew
  cases n <;> simp [chkT] at hc
/-- **A piece whose order is drawn**: a tree that bears all orders; S holds behind whatever is done. -/
theorem draw_tree {K:St → World → Prop} {s:St} {w:World} (t:Tr) (hc:(Region.noSelect ops && chkT ops ops.size (Array.replicate ops.size false) true t) = true) (S:World → Prop) (hS:S { w with drawn:=w.drawn + 1 })
  (h:vcT P ops S K t s { w with drawn:=w.drawn + 1 }):drawS P ops K s w:=by
 simp only [Bool.and_eq_true] at hc
 exact anyS_of_anyH _ _ _ _ ((anyH_of_vcT hc.1 t _ _ true s _ hc.2 hS h).1 rfl)
end
/-! ### A function -/
def initS (args:Array Value):St:=fun i => args.getD i undef
/-- What is handed back. -/
def resSem (rs:Array ResultVar) (s:St):Sem Value:=do
 let vs ← rs.mapM fun
  | .tmp t => pure (s t)
  | .cell a t => do loadVar t (← asAddr (s a))
 pure (if h:vs.size = 1 then vs[0] else .tuple vs)
theorem resSem_of (fn:Func) (t:Array Value):results fn t = resSem fn.results (fun i => t.getD i undef):=rfl
/-- What is asked at a function's end. -/
def endS (P:Program) (fn:Func) (R:Value → World → Prop):Ex → St → World → Prop
 | .normal,s,w | .ret,s,w => ∃ v,(resSem fn.results s).run P w = .ok v w ∧ R v w
 | _,_,_ => False
theorem vc_calls {P:Program} (hm:P.follows .mixedOrders = true) {f:FuncId} {fn:Func} {c:Code} {args:Array Value} {w:World} {R:Value → World → Prop} (hf:P.funcs[f]? = some fn) (hb:fn.body = some c)
  (hk:okC (max fn.ntmps args.size) c = true) (h:vcC P c (endS P fn R) (initS args) w):Cal P f args w R:=by
 refine calls_of_wp hf hb ?_
 have hr:Rep (max fn.ntmps args.size) (initS args) { tmps:=args ++ Array.replicate (fn.ntmps - args.size) undef,defers:=[] }:=by
  refine ⟨rfl,by simp; omega,fun i => ?_⟩
  simp only [initS,Array.getD_eq_getD_getElem?,Array.getElem?_append]
  by_cases hi:i < args.size
  ·rw [if_pos hi]
  ·rw [if_neg hi,Array.getElem?_eq_none (by omega:args.size ≤ i),Array.getElem?_replicate]
   split <;> rfl
 refine wp_mono (vcC_sound hm c hk _ _ _ w hr h) ?_
 rintro e a w' ⟨x,s,rfl,hr',hq⟩
 cases x <;> simp only [endS] at hq <;> simp only [Ex.toExit,bodyPost]
 all_goals
  obtain ⟨v,hv,hR⟩:=hq
  refine ⟨hr'.d,v,?_,v,rfl,hR⟩
  rw [resSem_of,show (fun i => a.tmps.getD i undef) = s from funext hr'.val]
  exact hv
/-! ### How it is walked: the same again, with what is not to be looked into marked as fixed -/
/-- A mark: 'a' stays as it is. -/
inductive Stop {α:Type} (a:α):Type
 | mk
section
variable {P:Program}
/-- A value that an operation yields, and what goes on with it. -/
def wV (K:Value → World → Prop) (_:Stop K):Result Value → Prop
 | .ok v w => K v w
 | _ => False
def wU (K:World → Prop) (_:Stop K):Result Unit → Prop
 | .ok _ w => K w
 | _ => False
def wN (P:Program) (K:Value → World → Prop) (_:Stop K):Result Next → Prop
 | .ok (.value v) w => K v w
 | .ok .skip w => K undef w
 | .ok (.enter f args) w => Cal P f args w K
 | _ => False
def wCal (P:Program) (f:FuncId) (args:Array Value) (w:World) (K:Value → World → Prop) (_:Stop K):Prop:=Cal P f args w K
def wOp (P:Program) (o:Oper) (s:St) (w:World) (K:St → World → Prop) (_:Stop K):Prop:=vcOp P o s w K
def wG (P:Program) (ops:Array Oper) (o:Oper) (s:St) (w:World) (K:St → World → Prop) (_:Stop (ops,K)):Prop:=vcG P ops o s w K
def wOps (P:Program) (ops:Array Oper) (K:St → World → Prop) (l:List Oper) (_:Stop (ops,K,l)) (s:St) (w:World):Prop:=vcOps P ops K l s w
def walk (P:Program) (c:Code) (Q:Ex → St → World → Prop) (_:Stop (c,Q)) (s:St) (w:World):Prop:=vcC P c Q s w
/-- A test: of the two pieces of code that one which the value tells. -/
def wCond (v:Value) (A B:Prop) (_:Stop (A,B)):Prop:=∃ t,v = .bool t ∧ (t = true → A) ∧ (t = false → B)
def pickV (c x y:Value) (K:Value → Prop) (_:Stop K):Prop:=match c with | .bool b => K (if b then x else y) | _ => False
def callV (P:Program) (f:Value) (args:Array Value) (w:World) (K:Value → World → Prop) (_:Stop K):Prop :=
 wN P K .mk ((do let d ← Deferred.ofValue f args; invoke d.target d.args:Sem Next).run P w)
theorem wV_ok (K:Value → World → Prop) (k:Stop K) (v:Value) (w:World):wV K k (.ok v w) = K v w:=(rfl)
theorem wU_ok (K:World → Prop) (k:Stop K) (v:Unit) (w:World):wU K k (.ok v w) = K w:=(rfl)
theorem wN_value (P:Program) (K:Value → World → Prop) (k:Stop K) (v:Value) (w:World):wN P K k (.ok (.value v) w) = K v w:=(rfl)
theorem wN_enter (P:Program) (K:Value → World → Prop) (k:Stop K) (f:FuncId) (args:Array Value) (w:World):wN P K k (.ok (.enter f args) w) = wCal P f args w K .mk:=(rfl)
theorem upd_at (s:St) (d:Nat) (v:Value) (i:Nat):upd s d v i = if i = d then v else s i:=(rfl)
theorem mix_at (ws:List Nat) (s f:St) (i:Nat):mix ws s f i = if ws.contains i then f i else s i:=(rfl)
theorem initS_at (args:Array Value) (i:Nat):initS args i = args.getD i undef:=(rfl)
theorem putS_some (s:St) (d:Nat) (v:Value):putS s (some d) v = upd s d v:=(rfl)
theorem putS_none (s:St) (v:Value):putS s none v = s:=(rfl)
theorem ev_tmp (s:St) (t:Nat):ev s (.tmp t) = s t:=(rfl)
theorem ev_const (s:St) (v:Value):ev s (.const v) = v:=(rfl)
theorem ev_global (s:St) (g:Nat):ev s (.global g) = .pointer (some ⟨g,0,none⟩):=(rfl)
theorem ev_func (s:St) (f:Nat):ev s (.func f) = .func (.func f) #[] #[]:=(rfl)
theorem uponS_V {K:St → World → Prop} {s:St} {w:World} (d:Option Tmp) (r:Sem Value):uponS P d s K ((do pure (.value (← r)):Sem Next).run P w) = wV (fun v w => K (putS s d v) w) .mk (r.run P w):=by
 have h:(do pure (.value (← r)):Sem Next).run P w = (r.run P w).andThen fun v w => .ok (.value v) w:=by
  show (Sem.bind r _).run P w = _
  rw [Sem.run_bind']; rfl
 rw [h]
 cases r.run P w <;> rfl
theorem uponS_U {K:St → World → Prop} {s:St} {w:World} (d:Option Tmp) (r:Sem Unit):uponS P d s K ((do r; pure .skip:Sem Next).run P w) = wU (fun w => K (putS s d undef) w) .mk (r.run P w):=by
 have h:(do r; pure .skip:Sem Next).run P w = (r.run P w).andThen fun _ w => .ok .skip w:=by
  show (Sem.bind r _).run P w = _
  rw [Sem.run_bind']; rfl
 rw [h]
 cases r.run P w <;> rfl
theorem uponS_N {K:St → World → Prop} {s:St} (d:Option Tmp) (r:Result Next):uponS P d s K r = wN P (fun v w => K (putS s d v) w) .mk r:=by
 cases r with
 | ok x w => cases x <;> rfl
 | halt => rfl
end
/-! The operations, each as the value that it yields. -/
/-- A value of one cell. -/
def _root_.Go.Value.isOne:Value → Bool
 | .agg _ => false
 | _ => true
theorem _root_.Go.Value.cells_one {v:Value} (h:v.isOne = true):v.cells = #[v]:=by cases v <;> first | rfl | cases h
section
variable {P:Program} {K:St → World → Prop} {k:Stop K} {s:St} {w:World} (d:Option Tmp) (t:TypeId) (p:String) (af:Array Edge) (g:Option (Nat × Bool))
theorem wOp_move (x:Operand):wOp P ⟨d,.move x,t,p,af,g⟩ s w K k = K (putS s d (ev s x)) w:=(rfl)
theorem wOp_assign (x:Operand):wOp P ⟨d,.assign x,t,p,af,g⟩ s w K k = K (putS s d (ev s x)) w:=(rfl)
theorem pickV_bool (b:Bool) (x y:Value) (K:Value → Prop) (k:Stop K):pickV (.bool b) x y K k = K (if b then x else y):=(rfl)
theorem wOp_pick (c x y:Operand):wOp P ⟨d,.pick c x y,t,p,af,g⟩ s w K k = pickV (ev s c) (ev s x) (ev s y) (fun v => K (putS s d v) w) .mk:=by
 show uponS P d s K ((do pure (.value (if ← asBool (ev s c) then ev s x else ev s y)):Sem Next).run P w) = _
 generalize ev s c = v
 cases v <;> rfl
theorem wOp_makeFunc (f:Fn) (a b:Array Operand):wOp P ⟨d,.makeFunc f a b,t,p,af,g⟩ s w K k = K (putS s d (.func f (a.map (ev s)) (b.map (ev s)))) w:=(rfl)
theorem wOp_alloc (e:TypeId):wOp P ⟨d,.alloc e,t,p,af,g⟩ s w K k = wV (fun v w => K (putS s d v) w) .mk ((Instr.alloc e true (.tuple #[])).run P w):=uponS_V d (Instr.alloc e true (.tuple #[]))
theorem wOp_box (e:TypeId) (x:Operand):wOp P ⟨d,.box e x,t,p,af,g⟩ s w K k = wV (fun v w => K (putS s d v) w) .mk ((Instr.box e (ev s x)).run P w):=uponS_V d (Instr.box e (ev s x))
/-- Literals, kept together. -/
def buildR (P:Program) (e:TypeId) (ps:Array (Nat × Value)) (w:World):Result Value:=(Instr.build e ps).run P w
def bsR (P:Program) (e:TypeId) (n:Nat) (ps:Array (Nat × Value)) (w:World):Result Value:=(Instr.buildSlice e n ps).run P w
theorem wOp_build (e:TypeId) (ps:Array (Nat × Operand)):wOp P ⟨d,.build e ps,t,p,af,g⟩ s w K k = wV (fun v w => K (putS s d v) w) .mk (buildR P e (ps.map fun (i,x) => (i,ev s x)) w):=uponS_V ..
theorem wOp_buildSlice (e:TypeId) (n:Nat) (ps:Array (Nat × Operand)):wOp P ⟨d,.buildSlice e n ps,t,p,af,g⟩ s w K k = wV (fun v w => K (putS s d v) w) .mk (bsR P e n (ps.map fun (i,x) => (i,ev s x)) w):=uponS_V ..
theorem wOp_load (e:TypeId) (x:Operand):wOp P ⟨d,.load e x,t,p,af,g⟩ s w K k = wV (fun v w => K (putS s d v) w) .mk ((Instr.loadAt e (ev s x)).run P w):=uponS_V d (Instr.loadAt e (ev s x))
theorem wOp_binOp (b:BinOp) (xt yt:TypeId) (x y:Operand):wOp P ⟨d,.binOp b xt x y yt,t,p,af,g⟩ s w K k = wV (fun v w => K (putS s d v) w) .mk ((do eqGuard b xt x y (ev s x) (ev s y); binOp b xt (ev s x) (ev s y):Sem Value).run P w):=uponS_V d (do eqGuard b xt x y (ev s x) (ev s y); binOp b xt (ev s x) (ev s y):Sem Value)
theorem wOp_unOp (b:UnOp) (xt:TypeId) (x:Operand):wOp P ⟨d,.unOp b xt x,t,p,af,g⟩ s w K k = wV (fun v w => K (putS s d v) w) .mk ((Op.unary b (ev s x)).run P w):=uponS_V d (Op.unary b (ev s x))
/-- A conversion, kept together (but of numbers). -/
def convR (P:Program) (a b:TypeId) (v:Value) (w:World):Result Value:=(convert a b v).run P w
theorem convR_int (a b:TypeId) (q:IntKind) (n:Int):convR P a b (.int q n) w = (convert a b (.int q n)).run P w:=(rfl)
theorem wOp_convert (a b:TypeId) (x:Operand):wOp P ⟨d,.convert a b x,t,p,af,g⟩ s w K k = wV (fun v w => K (putS s d v) w) .mk (convR P a b (ev s x) w):=uponS_V d (convert a b (ev s x))
theorem wOp_makeInterface (a:TypeId) (x:Operand):wOp P ⟨d,.makeInterface a x,t,p,af,g⟩ s w K k = wV (fun v w => K (putS s d v) w) .mk ((Instr.makeInterface a (ev s x)).run P w):=uponS_V d (Instr.makeInterface a (ev s x))
theorem wOp_makeMap (a:TypeId) (r:Option Operand):wOp P ⟨d,.makeMap a r,t,p,af,g⟩ s w K k = wV (fun v w => K (putS s d v) w) .mk ((Instr.makeMap a (r.map (ev s))).run P w):=uponS_V d (Instr.makeMap a (r.map (ev s)))
theorem wOp_makeSlice (a:TypeId) (x y:Operand):wOp P ⟨d,.makeSlice a x y,t,p,af,g⟩ s w K k = wV (fun v w => K (putS s d v) w) .mk ((Instr.makeSlice a (ev s x) (ev s y)).run P w):=uponS_V d (Instr.makeSlice a (ev s x) (ev s y))
theorem wOp_slice (a:TypeId) (x:Operand) (l h m:Option Operand):wOp P ⟨d,.slice a x l h m,t,p,af,g⟩ s w K k = wV (fun v w => K (putS s d v) w) .mk ((Instr.sliceAt a (ev s x) (l.map (ev s)) (h.map (ev s)) (m.map (ev s))).run P w):=uponS_V d (Instr.sliceAt a (ev s x) (l.map (ev s)) (h.map (ev s)) (m.map (ev s)))
theorem wOp_fieldAddr (a:TypeId) (x:Operand) (i:Nat):wOp P ⟨d,.fieldAddr a x i,t,p,af,g⟩ s w K k = wV (fun v w => K (putS s d v) w) .mk ((Instr.fieldAt a (ev s x) i).run P w):=uponS_V d (Instr.fieldAt a (ev s x) i)
theorem wOp_field (a:TypeId) (x:Operand) (i:Nat):wOp P ⟨d,.field a x i,t,p,af,g⟩ s w K k = wV (fun v w => K (putS s d v) w) .mk ((Instr.field a (ev s x) i).run P w):=uponS_V d (Instr.field a (ev s x) i)
theorem wOp_indexAddr (a:TypeId) (x i:Operand):wOp P ⟨d,.indexAddr a x i,t,p,af,g⟩ s w K k = wV (fun v w => K (putS s d v) w) .mk ((Instr.indexAt a (ev s x) (ev s i)).run P w):=uponS_V d (Instr.indexAt a (ev s x) (ev s i))
theorem wOp_index (a:TypeId) (x i:Operand):wOp P ⟨d,.index a x i,t,p,af,g⟩ s w K k = wV (fun v w => K (putS s d v) w) .mk ((Instr.index a (ev s x) (ev s i)).run P w):=uponS_V d (Instr.index a (ev s x) (ev s i))
theorem wOp_lookup (a:TypeId) (x i:Operand) (ok:Bool):wOp P ⟨d,.lookup a x i ok,t,p,af,g⟩ s w K k = wV (fun v w => K (putS s d v) w) .mk ((Instr.lookup a (ev s x) (ev s i) ok).run P w):=uponS_V d (Instr.lookup a (ev s x) (ev s i) ok)
theorem wOp_range (a:TypeId) (x:Operand):wOp P ⟨d,.range a x,t,p,af,g⟩ s w K k = wV (fun v w => K (putS s d v) w) .mk ((Instr.range a (ev s x)).run P w):=uponS_V d (Instr.range a (ev s x))
theorem wOp_next (x:Operand) (b:Bool):wOp P ⟨d,.next x b,t,p,af,g⟩ s w K k = wV (fun v w => K (putS s d v) w) .mk ((Instr.next (ev s x) b t).run P w):=uponS_V d (Instr.next (ev s x) b t)
theorem wOp_entry (x:Operand):wOp P ⟨d,.entry x,t,p,af,g⟩ s w K k = wV (fun v w => K (putS s d v) w) .mk ((Instr.entry (ev s x)).run P w):=uponS_V d (Instr.entry (ev s x))
theorem wOp_extract (x:Operand) (i:Nat):wOp P ⟨d,.extract x i,t,p,af,g⟩ s w K k = wV (fun v w => K (putS s d v) w) .mk ((Instr.extract (ev s x) i).run P w):=uponS_V d (Instr.extract (ev s x) i)
theorem wOp_mapEntry (a:TypeId) (x i:Operand):wOp P ⟨d,.mapEntry a x i,t,p,af,g⟩ s w K k = wV (fun v w => K (putS s d v) w) .mk ((Instr.mapEntry a (ev s x) (ev s i)).run P w):=uponS_V d (Instr.mapEntry a (ev s x) (ev s i))
theorem wOp_typeAssert (x:Operand) (a b:TypeId) (ok:Bool):wOp P ⟨d,.typeAssert x a b ok,t,p,af,g⟩ s w K k = wV (fun v w => K (putS s d v) w) .mk ((Instr.typeAssert (ev s x) a b ok).run P w):=uponS_V d (Instr.typeAssert (ev s x) a b ok)
theorem wOp_store (e:TypeId) (x y:Operand):wOp P ⟨d,.store e x y,t,p,af,g⟩ s w K k = wU (fun w => K (putS s d undef) w) .mk ((Instr.storeAt e (ev s x) (ev s y)).run P w):=uponS_U d (Instr.storeAt e (ev s x) (ev s y))
theorem wOp_mapUpdate (e:TypeId) (m i x:Operand):wOp P ⟨d,.mapUpdate e m i x,t,p,af,g⟩ s w K k = wU (fun w => K (putS s d undef) w) .mk ((Instr.mapUpdate e (ev s m) (ev s i) (ev s x)).run P w):=uponS_U d (Instr.mapUpdate e (ev s m) (ev s i) (ev s x))
theorem wOp_insert (e:TypeId) (m i x:Operand):wOp P ⟨d,.insert e m i x,t,p,af,g⟩ s w K k = wU (fun w => K (putS s d undef) w) .mk ((Instr.mapUpdate e (ev s m) (ev s i) (ev s x)).run P w):=uponS_U d (Instr.mapUpdate e (ev s m) (ev s i) (ev s x))
theorem wOp_entryStore (e:TypeId) (m i x:Operand):wOp P ⟨d,.entryStore e m i x,t,p,af,g⟩ s w K k = wU (fun w => K (putS s d undef) w) .mk ((Instr.entryStore e (ev s m) (ev s i) (ev s x)).run P w):=uponS_U d (Instr.entryStore e (ev s m) (ev s i) (ev s x))
theorem wOp_nilCheck_ptr (x:Operand) (a:Addr) (h:ev s x = .pointer (some a)):wOp P ⟨d,.nilCheck x,t,p,af,g⟩ s w K k = K (putS s d (.pointer (some a))) w:=by
 unfold wOp vcOp execOp
 simp only [h]; rfl
theorem wOp_nilCheck_func (x:Operand) (f:FuncId) (a b:Array Value) (h:ev s x = .func (.func f) a b):wOp P ⟨d,.nilCheck x,t,p,af,g⟩ s w K k = K (putS s d (.func (.func f) a b)) w:=by
 unfold wOp vcOp execOp
 simp only [h]; rfl
theorem wOp_call (x:Operand) (args:Array Operand) (ts:Array TypeId):wOp P ⟨d,.call ⟨.value x,args,ts⟩,t,p,af,g⟩ s w K k = callV P (ev s x) (args.map (ev s)) w (fun v w => K (putS s d v) w) .mk:=by
 unfold wOp vcOp callV
 rw [uponS_N]; rfl
/-- The builtins that yield a value. -/
theorem wOp_len (args:Array Operand) (ts:Array TypeId):wOp P ⟨d,.call ⟨.builtin .len,args,ts⟩,t,p,af,g⟩ s w K k = wV (fun v w => K (putS s d v) w) .mk ((Builtin.len_ ts t (args.map (ev s))).run P w):=uponS_V d (Builtin.len_ ts t (args.map (ev s)))
/-- An append, kept together. -/
def appS (P:Program) (ts:Array TypeId) (t:TypeId) (args:Array Value) (w:World):Result Value:=(Builtin.append_ ts t args).run P w
theorem wOp_append (args:Array Operand) (ts:Array TypeId):wOp P ⟨d,.call ⟨.builtin .append,args,ts⟩,t,p,af,g⟩ s w K k = wV (fun v w => K (putS s d v) w) .mk (appS P ts t (args.map (ev s)) w):=uponS_V d (Builtin.append_ ts t (args.map (ev s)))
def copyS (P:Program) (ts:Array TypeId) (t:TypeId) (args:Array Value) (w:World):Result Value:=(Builtin.copy_ ts t args).run P w
theorem wOp_copy (args:Array Operand) (ts:Array TypeId):wOp P ⟨d,.call ⟨.builtin .copy,args,ts⟩,t,p,af,g⟩ s w K k = wV (fun v w => K (putS s d v) w) .mk (copyS P ts t (args.map (ev s)) w):=uponS_V d (Builtin.copy_ ts t (args.map (ev s)))
theorem wOp_min (args:Array Operand) (ts:Array TypeId):wOp P ⟨d,.call ⟨.builtin .min,args,ts⟩,t,p,af,g⟩ s w K k = wV (fun v w => K (putS s d v) w) .mk ((Builtin.min_ ts t (args.map (ev s))).run P w):=uponS_V d (Builtin.min_ ts t (args.map (ev s)))
theorem wOp_max (args:Array Operand) (ts:Array TypeId):wOp P ⟨d,.call ⟨.builtin .max,args,ts⟩,t,p,af,g⟩ s w K k = wV (fun v w => K (putS s d v) w) .mk ((Builtin.max_ ts t (args.map (ev s))).run P w):=uponS_V d (Builtin.max_ ts t (args.map (ev s)))
theorem wOp_cap (args:Array Operand) (ts:Array TypeId):wOp P ⟨d,.call ⟨.builtin .cap,args,ts⟩,t,p,af,g⟩ s w K k = wV (fun v w => K (putS s d v) w) .mk ((Builtin.cap_ ts t (args.map (ev s))).run P w):=uponS_V d (Builtin.cap_ ts t (args.map (ev s)))
def deleteS (P:Program) (ts:Array TypeId) (t:TypeId) (args:Array Value) (w:World):Result Value:=(Builtin.delete_ ts t args).run P w
theorem wOp_delete (args:Array Operand) (ts:Array TypeId):wOp P ⟨d,.call ⟨.builtin .delete,args,ts⟩,t,p,af,g⟩ s w K k = wV (fun v w => K (putS s d v) w) .mk (deleteS P ts t (args.map (ev s)) w):=uponS_V d (Builtin.delete_ ts t (args.map (ev s)))
theorem run_min2 (ts:Array TypeId) (t:TypeId) (j j':IntKind) (x y:Int):(Builtin.min_ ts t #[.int j x,.int j' y]).run P w = .ok (.int j (min x y)) w:=by
 have e:(if y < x then y else x) = min x y:=by rw [Int.min_def]; split <;> split <;> omega
 simp [Builtin.min_,Builtin.min2,e]
theorem run_max2 (ts:Array TypeId) (t:TypeId) (j j':IntKind) (x y:Int):(Builtin.max_ ts t #[.int j x,.int j' y]).run P w = .ok (.int j (max x y)) w:=by
 have e:(if x < y then y else x) = max x y:=by rw [Int.max_def]; split <;> split <;> omega
 simp [Builtin.max_,Builtin.max2,e]
/-- A literal of n elements of one cell each. -/
theorem run_bs0 (t:TypeId) (h:P.underlying t = some (.slice (P.elem t))) (hs:∃ n,(sizeOf (P.elem t)).run P w = .ok n w):bsR P t 0 #[] w = .ok (.slice (some ⟨w.heap.size,0,none⟩) 0 0) (w.alloc (.cells #[] (P.elem t))):=by
 obtain ⟨n,hs⟩:=hs
 simp [bsR,Instr.buildSlice,run_underlying h,hs,Instr.fill,newRow,show Array.range 0 = #[] from rfl]
theorem run_bs1 (t:TypeId) (a0:Value) (h:P.underlying t = some (.slice (P.elem t))) (hs:(sizeOf (P.elem t)).run P w = .ok 1 w) (hz:∃ z,(zeroValue (P.elem t)).run P w = .ok z w ∧ z.cells.size = 1) (ha0:a0.isOne = true) :
  bsR P t 1 #[(0,a0)] w = .ok (.slice (some ⟨w.heap.size,0,none⟩) 1 1) (w.alloc (.cells #[a0] (P.elem t))):=by
 obtain ⟨z,hz,_⟩:=hz
 simp [bsR,Instr.buildSlice,run_underlying h,hs,hz,Instr.fill,Value.cells_one ha0,newRow,show Array.range 1 = #[0] from rfl]
theorem run_bs2 (t:TypeId) (a0 a1:Value) (h:P.underlying t = some (.slice (P.elem t))) (hs:(sizeOf (P.elem t)).run P w = .ok 1 w) (hz:∃ z,(zeroValue (P.elem t)).run P w = .ok z w ∧ z.cells.size = 1) (ha0:a0.isOne = true) (ha1:a1.isOne = true) :
  bsR P t 2 #[(0,a0),(1,a1)] w = .ok (.slice (some ⟨w.heap.size,0,none⟩) 2 2) (w.alloc (.cells #[a0,a1] (P.elem t))):=by
 obtain ⟨z,hz,_⟩:=hz
 simp [bsR,Instr.buildSlice,run_underlying h,hs,hz,Instr.fill,Value.cells_one ha0,Value.cells_one ha1,newRow,show Array.range 2 = #[0,1] from rfl]
theorem run_bs3 (t:TypeId) (a0 a1 a2:Value) (h:P.underlying t = some (.slice (P.elem t))) (hs:(sizeOf (P.elem t)).run P w = .ok 1 w) (hz:∃ z,(zeroValue (P.elem t)).run P w = .ok z w ∧ z.cells.size = 1) (ha0:a0.isOne = true) (ha1:a1.isOne = true) (ha2:a2.isOne = true) :
  bsR P t 3 #[(0,a0),(1,a1),(2,a2)] w = .ok (.slice (some ⟨w.heap.size,0,none⟩) 3 3) (w.alloc (.cells #[a0,a1,a2] (P.elem t))):=by
 obtain ⟨z,hz,_⟩:=hz
 simp [bsR,Instr.buildSlice,run_underlying h,hs,hz,Instr.fill,Value.cells_one ha0,Value.cells_one ha1,Value.cells_one ha2,newRow,show Array.range 3 = #[0,1,2] from rfl]
theorem run_bs4 (t:TypeId) (a0 a1 a2 a3:Value) (h:P.underlying t = some (.slice (P.elem t))) (hs:(sizeOf (P.elem t)).run P w = .ok 1 w) (hz:∃ z,(zeroValue (P.elem t)).run P w = .ok z w ∧ z.cells.size = 1) (ha0:a0.isOne = true) (ha1:a1.isOne = true) (ha2:a2.isOne = true) (ha3:a3.isOne = true) :
  bsR P t 4 #[(0,a0),(1,a1),(2,a2),(3,a3)] w = .ok (.slice (some ⟨w.heap.size,0,none⟩) 4 4) (w.alloc (.cells #[a0,a1,a2,a3] (P.elem t))):=by
 obtain ⟨z,hz,_⟩:=hz
 simp [bsR,Instr.buildSlice,run_underlying h,hs,hz,Instr.fill,Value.cells_one ha0,Value.cells_one ha1,Value.cells_one ha2,Value.cells_one ha3,newRow,show Array.range 4 = #[0,1,2,3] from rfl]
theorem run_bs5 (t:TypeId) (a0 a1 a2 a3 a4:Value) (h:P.underlying t = some (.slice (P.elem t))) (hs:(sizeOf (P.elem t)).run P w = .ok 1 w) (hz:∃ z,(zeroValue (P.elem t)).run P w = .ok z w ∧ z.cells.size = 1) (ha0:a0.isOne = true) (ha1:a1.isOne = true) (ha2:a2.isOne = true) (ha3:a3.isOne = true) (ha4:a4.isOne = true) :
  bsR P t 5 #[(0,a0),(1,a1),(2,a2),(3,a3),(4,a4)] w = .ok (.slice (some ⟨w.heap.size,0,none⟩) 5 5) (w.alloc (.cells #[a0,a1,a2,a3,a4] (P.elem t))):=by
 obtain ⟨z,hz,_⟩:=hz
 simp [bsR,Instr.buildSlice,run_underlying h,hs,hz,Instr.fill,Value.cells_one ha0,Value.cells_one ha1,Value.cells_one ha2,Value.cells_one ha3,Value.cells_one ha4,newRow,show Array.range 5 = #[0,1,2,3,4] from rfl]
theorem run_bs6 (t:TypeId) (a0 a1 a2 a3 a4 a5:Value) (h:P.underlying t = some (.slice (P.elem t))) (hs:(sizeOf (P.elem t)).run P w = .ok 1 w) (hz:∃ z,(zeroValue (P.elem t)).run P w = .ok z w ∧ z.cells.size = 1) (ha0:a0.isOne = true) (ha1:a1.isOne = true) (ha2:a2.isOne = true) (ha3:a3.isOne = true) (ha4:a4.isOne = true) (ha5:a5.isOne = true) :
  bsR P t 6 #[(0,a0),(1,a1),(2,a2),(3,a3),(4,a4),(5,a5)] w = .ok (.slice (some ⟨w.heap.size,0,none⟩) 6 6) (w.alloc (.cells #[a0,a1,a2,a3,a4,a5] (P.elem t))):=by
 obtain ⟨z,hz,_⟩:=hz
 simp [bsR,Instr.buildSlice,run_underlying h,hs,hz,Instr.fill,Value.cells_one ha0,Value.cells_one ha1,Value.cells_one ha2,Value.cells_one ha3,Value.cells_one ha4,Value.cells_one ha5,newRow,show Array.range 6 = #[0,1,2,3,4,5] from rfl]
/-- Has a function a body? -/
def isGo (P : Program) (f : FuncId) : Bool := match P.funcs[f]? with | some fn => !(fn.name == "runtime.NumGoroutine") && fn.body.isSome | none => false
theorem run_callFunc {f:FuncId} (h:isGo P f = true) (args:Array Value) (w:World):(callFunc f args).run P w = .ok (.enter f args) w:=by
 unfold isGo at h
 unfold callFunc
 simp only [Sem.run_bind,run_program,Result.andThen_ok]
 split at h
 ·rename_i fn hf
  simp only [Bool.and_eq_true,Bool.not_eq_true'] at h
  have h2:fn.body.isNone = false:=by cases hb:fn.body <;> simp_all
  simp only [hf,h.1,h2,if_false,Bool.false_eq_true]
  rfl
 ·cases h
theorem callV_func {f:FuncId} (h:isGo P f = true) (a b args:Array Value) (w:World) (K:Value → World → Prop) (k:Stop K):callV P (.func (.func f) a b) args w K k = wCal P f (a ++ args ++ b) w K .mk:=by
 unfold callV Deferred.ofValue
 simp only [Sem.run_bind,Sem.run_pure,Result.andThen_ok,invoke,run_callFunc h]
 rfl
/-- A call of an entry of the model's own. -/
theorem callV_entry {f : FuncId} {fn : Func} {e : Array Value → Sem Value} (hf : P.funcs[f]? = some fn) (hname : (fn.name == "runtime.NumGoroutine") = false) (hb : fn.body.isNone = true) (hn : Extern.findNext fn = none) (he : Extern.find fn = some e)
  (a b args:Array Value) (w:World) (K:Value → World → Prop) (k:Stop K):callV P (.func (.func f) a b) args w K k = wV K .mk ((e (a ++ args ++ b)).run P w):=by
 unfold callV Deferred.ofValue wV
 simp only [Sem.run_bind,Sem.run_pure,Result.andThen_ok,invoke,run_callFunc_extern hf hname hb hn he]
 cases h:(e (a ++ args ++ b)).run P w with
 | ok v w' => rfl
 | halt x w' => rfl
/-- internal/bytealg.MakeNoZero, kept together. -/
def nzS (P:Program) (t:TypeId) (args:Array Value) (w:World):Result Value:=(Extern.BytealgMakeNoZero.makeNoZero #[] #[t] args).run P w
end
/-! ### The code -/
section
variable {P:Program} {Q:Ex → St → World → Prop} {s:St} {w:World}
theorem wOps_nil (ops:Array Oper) (K:St → World → Prop) (k:Stop (ops,K,([]:List Oper))):wOps P ops K [] k s w = K s w:=(rfl)
theorem wOps_cons (ops:Array Oper) (K:St → World → Prop) (o:Oper) (l:List Oper) (k:Stop (ops,K,o :: l)):wOps P ops K (o :: l) k s w = wG P ops o s w (wOps P ops K l .mk) .mk:=(rfl)
theorem wG_none (ops:Array Oper) (K:St → World → Prop) (k:Stop (ops,K)) (d:Option Tmp) (op:Op) (t:TypeId) (p:String) (af:Array Edge):wG P ops ⟨d,op,t,p,af,none⟩ s w K k = wOp P ⟨d,op,t,p,af,none⟩ s w K .mk:=(rfl)
/-- What a guard says. -/
def gB (y:Option Bool) (b:Bool):Value:=.bool (y == some b)
theorem gB_true (x:Bool):gB (some x) true = .bool x:=by cases x <;> rfl
theorem gB_false (x:Bool):gB (some x) false = .bool (!x):=by cases x <;> rfl
theorem gB_none (b:Bool):gB none b = .bool false:=by cases b <;> rfl
def yV:Value → Option Bool | .bool b => some b | _ => none
theorem yV_bool (b:Bool):yV (.bool b) = some b:=(rfl)
theorem yV_undef:yV undef = none:=(rfl)
def yD (d:Option Tmp) (s:St):Option Bool:=match d with | some d => yV (s d) | none => none
theorem yD_some (d:Nat) (s:St):yD (some d) s = yV (s d):=(rfl)
theorem yieldS_lit (l:List Oper) (s:St) (j:Nat):yieldS l.toArray s j = yD ((l[j]?).bind (·.dst)) s:=by
 unfold yieldS yD yV
 simp only [List.getElem?_toArray]
theorem wG_some (l:List Oper) (K:St → World → Prop) (k:Stop (l.toArray,K)) (d:Option Tmp) (op:Op) (t:TypeId) (p:String) (af:Array Edge) (j:Nat) (b:Bool):wG P l.toArray ⟨d,op,t,p,af,some (j,b)⟩ s w K k =
  wCond (gB (yD ((l[j]?).bind (·.dst)) s) b) (wOp P ⟨d,op,t,p,af,some (j,b)⟩ s w K .mk) (K (putS s d undef) w) .mk:=by
 rw [← yieldS_lit]
 show (if yieldS l.toArray s j = some b then _ else _) = _
 by_cases h:yieldS l.toArray s j = some b
 ·rw [if_pos h,h]
  refine propext ⟨fun x => ⟨true,by simp [gB],fun _ => x,(fun h => by cases h)⟩,?_⟩
  rintro ⟨t,ht,h1,_⟩
  simp [gB] at ht
  exact h1 ht
 ·rw [if_neg h]
  have hb:(yieldS l.toArray s j == some b) = false:=by simpa using h
  refine propext ⟨fun x => ⟨false,by simp only [gB,hb],(fun h => by cases h),fun _ => x⟩,?_⟩
  rintro ⟨t,ht,_,h1⟩
  simp only [gB,hb,Value.bool.injEq] at ht
  exact h1 ht.symm
theorem walk_skip (k:Stop (Code.skip,Q)):walk P .skip Q k s w = Q .normal s w:=(rfl)
theorem walk_region (id:Nat) (l:List Oper) (k:Stop (Code.region id l.toArray false,Q)):walk P (.region id l.toArray false) Q k s w = wOps P l.toArray (Q .normal) l .mk s w:=by simp [walk,vcC,wOps]
theorem walk_seq (a b:Code) (k:Stop (Code.seq a b,Q)):walk P (.seq a b) Q k s w = walk P a (thenS (fun s w => walk P b Q .mk s w) Q) .mk s w:=(rfl)
theorem walk_block (id:Nat) (c:Code) (k:Stop (Code.block id c,Q)):walk P (.block id c) Q k s w = walk P c (blockS id Q) .mk s w:=(rfl)
theorem walk_exit (id:Nat) (k:Stop (Code.exit id,Q)):walk P (.exit id) Q k s w = Q (.exit id) s w:=(rfl)
theorem walk_ret (k:Stop (Code.ret,Q)):walk P .ret Q k s w = Q .ret s w:=(rfl)
theorem walk_cond (c:Operand) (x y:Code) (k:Stop (Code.cond c x y,Q)):walk P (.cond c x y) Q k s w = wCond (ev s c) (walk P x Q .mk s w) (walk P y Q .mk s w) .mk:=(rfl)
theorem walk_label (l:Nat) (k:Stop (Code.label l,Q)):walk P (.label l) Q k s w = Q .normal s w:=(rfl)
theorem walk_goto (l:Nat) (k:Stop (Code.goto l,Q)):walk P (.goto l) Q k s w = Q (.goto l) s w:=(rfl)
theorem jumpS_normal (l:Nat) (J:St → World → Prop):jumpS l J Q .normal s w = Q .normal s w:=(rfl)
theorem jumpS_exit (l id:Nat) (J:St → World → Prop):jumpS l J Q (.exit id) s w = Q (.exit id) s w:=(rfl)
theorem jumpS_ret (l:Nat) (J:St → World → Prop):jumpS l J Q .ret s w = Q .ret s w:=(rfl)
theorem jumpS_goto (l l':Nat) (J:St → World → Prop):jumpS l J Q (.goto l') s w = (l' = l ∧ J s w):=(rfl)
theorem nogoS_normal:nogoS Q .normal s w = Q .normal s w:=(rfl)
theorem nogoS_exit (id:Nat):nogoS Q (.exit id) s w = Q (.exit id) s w:=(rfl)
theorem nogoS_ret:nogoS Q .ret s w = Q .ret s w:=(rfl)
theorem thenS_goto (l:Nat) (K:St → World → Prop):thenS K Q (.goto l) s w = Q (.goto l) s w:=(rfl)
theorem blockS_goto (id l:Nat):blockS id Q (.goto l) s w = Q (.goto l) s w:=(rfl)
theorem thenS_normal (K:St → World → Prop):thenS K Q .normal s w = K s w:=(rfl)
theorem thenS_exit (K:St → World → Prop) (id:Nat):thenS K Q (.exit id) s w = Q (.exit id) s w:=(rfl)
theorem thenS_ret (K:St → World → Prop):thenS K Q .ret s w = Q .ret s w:=(rfl)
theorem blockS_normal (id:Nat):blockS id Q .normal s w = Q .normal s w:=(rfl)
theorem blockS_exit (id id':Nat):blockS id Q (.exit id') s w = if id' = id then Q .normal s w else Q (.exit id') s w:=(rfl)
theorem blockS_ret (id:Nat):blockS id Q .ret s w = Q .ret s w:=(rfl)
theorem exitS_normal (id:Nat) (M:St → World → Prop):exitS id M Q .normal s w = Q .normal s w:=(rfl)
theorem exitS_exit (id id':Nat) (M:St → World → Prop):exitS id M Q (.exit id') s w = if id' = id then M s w else Q (.exit id') s w:=(rfl)
theorem exitS_ret (id:Nat) (M:St → World → Prop):exitS id M Q .ret s w = Q .ret s w:=(rfl)
theorem endS_ret (fn:Func) (R:Value → World → Prop):endS P fn R .ret s w = ∃ v,(resSem fn.results s).run P w = .ok v w ∧ R v w:=(rfl)
theorem endS_normal (fn:Func) (R:Value → World → Prop):endS P fn R .normal s w = ∃ v,(resSem fn.results s).run P w = .ok v w ∧ R v w:=(rfl)
theorem resSem_none (s:St):resSem #[] s = pure (.tuple #[]):=by simp [resSem]
theorem resSem_tmp (i:Nat) (s:St):resSem #[.tmp i] s = pure (s i):=by simp [resSem]
theorem resSem_tmp2 (i j:Nat) (s:St):resSem #[.tmp i,.tmp j] s = pure (.tuple #[s i,s j]):=by simp [resSem]
theorem resSem_tmp3 (i j k:Nat) (s:St):resSem #[.tmp i,.tmp j,.tmp k] s = pure (.tuple #[s i,s j,s k]):=by simp [resSem]
theorem wCond_true (A B:Prop) (k:Stop (A,B)):wCond (.bool true) A B k = A:=by
 refine propext ⟨?_,fun h => ⟨true,rfl,fun _ => h,(fun h => by cases h)⟩⟩
 rintro ⟨t,ht,h1,_⟩
 cases ht
 exact h1 rfl
theorem wCond_false (A B:Prop) (k:Stop (A,B)):wCond (.bool false) A B k = B:=by
 refine propext ⟨?_,fun h => ⟨false,rfl,(fun h => by cases h),fun _ => h⟩⟩
 rintro ⟨t,ht,_,h1⟩
 cases ht
 exact h1 rfl
theorem cond_b {b:Bool} {A B:Prop} {k:Stop (A,B)} (h1:b = true → A) (h2:b = false → B):wCond (.bool b) A B k:=⟨b,rfl,h1,h2⟩
/-- The test of a proposition. -/
theorem cond_d {p:Prop} [Decidable p] {A B:Prop} {k:Stop (A,B)} (h1:p → A) (h2:¬ p → B):wCond (.bool (decide p)) A B k:=⟨_,rfl,fun h => h1 (of_decide_eq_true h),fun h => h2 (of_decide_eq_false h)⟩
theorem cond_e {a b:Int} {A B:Prop} {k:Stop (A,B)} (h1:a = b → A) (h2:a ≠ b → B):wCond (.bool (a == b)) A B k:=⟨_,rfl,fun h => h1 (eq_of_beq h),fun h => h2 (ne_of_beq_false h)⟩
theorem cond_n {a b:Int} {A B:Prop} {k:Stop (A,B)} (h1:a ≠ b → A) (h2:a = b → B):wCond (.bool (a != b)) A B k:=⟨_,rfl,fun h => h1 (by simpa using h),fun h => h2 (by simpa using h)⟩
theorem cond_nd {p:Prop} [Decidable p] {A B:Prop} {k:Stop (A,B)} (h1:¬ p → A) (h2:p → B):wCond (.bool (!decide p)) A B k:=⟨_,rfl,fun h => h1 (by simpa using h),fun h => h2 (by simpa using h)⟩
theorem cond_nb {b:Bool} {A B:Prop} {k:Stop (A,B)} (h1:b = false → A) (h2:b = true → B):wCond (.bool (!b)) A B k:=⟨_,rfl,fun h => h1 (by simpa using h),fun h => h2 (by simpa using h)⟩
theorem run_eql_slice (P:Program) (w:World) (t:TypeId) (a:Option Addr) (n c:Nat) (h:P.underlying t = some (.slice (P.elem t))):(binOp .eql t (.slice a n c) (.slice none 0 0)).run P w = .ok (.bool a.isNone) w:=by
 have he:∀ d:Nat,(Op.equalIn (d + 1) t (.slice a n c) (.slice none 0 0)).run P w = .ok a.isNone w:=fun d => by
  cases a <;> simp [Op.equalIn,run_underlying h]
 simp only [binOp]
 simp [Op.equal,Op.maxDepth,he 9999]
theorem run_neq_slice (P:Program) (w:World) (t:TypeId) (a:Option Addr) (n c:Nat) (h:P.underlying t = some (.slice (P.elem t))):(binOp .neq t (.slice a n c) (.slice none 0 0)).run P w = .ok (.bool (!a.isNone)) w:=by
 have he:∀ d:Nat,(Op.equalIn (d + 1) t (.slice a n c) (.slice none 0 0)).run P w = .ok a.isNone w:=fun d => by
  cases a <;> simp [Op.equalIn,run_underlying h]
 simp only [binOp]
 simp [Op.equal,Op.maxDepth,he 9999]
/-- The beginning of a function. -/
theorem enter (hm:P.follows .mixedOrders = true) {f:FuncId} {fn:Func} {c:Code} {args:Array Value} {R:Value → World → Prop} (hf:P.funcs[f]? = some fn) (hb:fn.body = some c)
  (hk:okC (max fn.ntmps args.size) c = true) (h:walk P c (endS P fn R) .mk (initS args) w):Cal P f args w R:=vc_calls hm hf hb hk h
/-- A call by its contract. -/
theorem call {f:FuncId} {args:Array Value} {K:Value → World → Prop} {k:Stop K} {R:Value → World → Prop} (h:Cal P f args w R) (hr:∀ v w',R v w' → K v w'):wCal P f args w K k:=h.mono hr
/-- A loop. -/
theorem loop {c:Code} {k:Stop (Code.loop c,Q)} (ws:List Nat) (hws:(writes c).all ws.contains = true) (I:St → World → Prop) (m:St → World → Nat) (h0:I s w)
  (hr:∀ f w',I f w' → walk P c (thenS (fun s'' w'' => I s'' w'' ∧ m s'' w'' < m f w') Q) .mk (mix ws s f) w'):walk P (.loop c) Q k s w:=vc_loop ws hws I m h0 hr
/-- A loop that is left in more places than one. -/
theorem loopx {c:Code} {k:Stop (Code.loop c,Q)} (id:Nat) (ws:List Nat) (hws:(writes c).all ws.contains = true) (I:St → World → Prop) (m:St → World → Nat) (M:St → World → Prop) (h0:I s w)
  (hr:∀ f w',I f w' → walk P c (thenS (fun s'' w'' => I s'' w'' ∧ m s'' w'' < m f w') (exitS id M Q)) .mk (mix ws s f) w') (hM:∀ f w',M f w' → Q (.exit id) (mix ws s f) w'):walk P (.loop c) Q k s w:=vc_loopx id ws hws I m M h0 hr hM
theorem scope (hm:P.follows .mixedOrders = true) {c rest:Code} {k:Stop (Code.scope c,Q)} (l:Nat) (hf:findLabel c l = some rest) (ws:List Nat) (hws:(writes c).all ws.contains = true) (J:St → World → Prop) (m:St → World → Nat)
  (h0:walk P c (jumpS l J Q) .mk s w) (hr:∀ f w',J f w' → walk P rest (jumpS l (fun s'' w'' => J s'' w'' ∧ m s'' w'' < m f w') Q) .mk (mix ws s f) w'):walk P (.scope c) Q k s w:=vc_scope hm l hf ws hws J m h0 hr
/-- A join. -/
theorem cut {a b:Code} {k:Stop (Code.seq a b,Q)} (ws:List Nat) (hws:(writes a).all ws.contains = true) (M:St → World → Prop) (h1:walk P a (thenS M Q) .mk s w)
  (h2:∀ f w',M f w' → walk P b Q .mk (mix ws s f) w'):walk P (.seq a b) Q k s w:=vc_cut ws hws M h1 h2
end
/-! ### Orders that are drawn -/
section
variable {P:Program} {S:World → Prop}
def wTake (P:Program) (S:World → Prop) (o:Oper) (s:St) (w:World) (K:St → World → Prop) (_:Stop K):Prop:=takeV P S o s w K
def wTakeG (P:Program) (ops:Array Oper) (S:World → Prop) (o:Oper) (s:St) (w:World) (K:St → World → Prop) (_:Stop (ops,K)):Prop:=takeG P ops S o s w K
def wT (P:Program) (ops:Array Oper) (S:World → Prop) (K:St → World → Prop) (t:Tr) (_:Stop (ops,K,t)) (s:St) (w:World):Prop:=vcT P ops S K t s w
def stay (S:World → Prop) (r:Result Value) (f:World → Result Value) (K:Value → Prop) (_:Stop K):Prop:=stayR S r f K
theorem stay_ok (v:Value) (w:World) (f:World → Result Value) (K:Value → Prop) (k:Stop K):stay S (.ok v w) f K k = ((∀ w1,S w1 → f w1 = .ok v w1) ∧ K v):=(rfl)
theorem wT_done (ops:Array Oper) (K:St → World → Prop) (k:Stop (ops,K,Tr.done)) (s:St) (w:World):wT P ops S K .done k s w = K s w:=(rfl)
theorem wT_stop (ops:Array Oper) (K:St → World → Prop) (k:Stop (ops,K,Tr.stop)) (s:St) (w:World):wT P ops S K .stop k s w = True:=(rfl)
theorem wT_take (l:List Oper) (K:St → World → Prop) (i:Nat) (t:Tr) (k:Stop (l.toArray,K,Tr.take i t)) (s:St) (w:World):wT P l.toArray S K (.take i t) k s w = ∃ o,l[i]? = some o ∧ wTakeG P l.toArray S o s w (wT P l.toArray S K t .mk) .mk:=by
 simp [wT,vcT,wTakeG]; rfl
theorem wT_alt (l:List Oper) (K:St → World → Prop) (i:Nat) (t rest:Tr) (k:Stop (l.toArray,K,Tr.alt i t rest)) (s:St) (w:World):wT P l.toArray S K (.alt i t rest) k s w =
  ((∃ o,l[i]? = some o ∧ wG P l.toArray o s w (fun s' w' => S w' ∧ wT P l.toArray S K t .mk s' w') .mk) ∧ wT P l.toArray S K rest .mk s w):=by
 simp [wT,vcT,wG]
variable {K:St → World → Prop} {k:Stop K} {s:St} {w:World} (d:Option Tmp) (t:TypeId) (p:String) (af:Array Edge) (g:Option (Nat × Bool))
theorem wTakeG_none (ops:Array Oper) (k:Stop (ops,K)) (op:Op):wTakeG P ops S ⟨d,op,t,p,af,none⟩ s w K k = wTake P S ⟨d,op,t,p,af,none⟩ s w K .mk:=(rfl)
theorem wTakeG_some (l:List Oper) (k:Stop (l.toArray,K)) (op:Op) (j:Nat) (b:Bool):wTakeG P l.toArray S ⟨d,op,t,p,af,some (j,b)⟩ s w K k =
  wCond (gB (yD ((l[j]?).bind (·.dst)) s) b) (wTake P S ⟨d,op,t,p,af,some (j,b)⟩ s w K .mk) (K (putS s d undef) w) .mk:=by
 rw [← yieldS_lit]
 show (if yieldS l.toArray s j = some b then _ else _) = _
 by_cases h:yieldS l.toArray s j = some b
 ·rw [if_pos h,h]
  refine propext ⟨fun x => ⟨true,by simp [gB],fun _ => x,(fun h => by cases h)⟩,?_⟩
  rintro ⟨t,ht,h1,_⟩
  simp [gB] at ht
  exact h1 ht
 ·rw [if_neg h]
  have hb:(yieldS l.toArray s j == some b) = false:=by simpa using h
  refine propext ⟨fun x => ⟨false,by simp only [gB,hb],(fun h => by cases h),fun _ => x⟩,?_⟩
  rintro ⟨t,ht,_,h1⟩
  simp only [gB,hb,Value.bool.injEq] at ht
  exact h1 ht.symm
theorem wTake_V (o:Oper) (r:Sem Value) (h:execOp (ev s) o = do pure (.value (← r))):wTake P S o s w K k = stay S (r.run P w) (fun w1 => r.run P w1) (fun v => K (putS s o.dst v) w) .mk:=by
 have hr:∀ w1,(do pure (.value (← r)):Sem Next).run P w1 = (r.run P w1).andThen fun v w => .ok (.value v) w:=by
  intro w1
  show (Sem.bind r _).run P w1 = _
  rw [Sem.run_bind']; rfl
 unfold wTake takeV stay
 simp only [h,hr]
 unfold stayR
 cases r.run P w with
 | ok v w' =>
  simp only [Result.andThen_ok,Next.value.injEq,exists_eq_left']
  refine propext ⟨fun ⟨h1,h2⟩ => ⟨fun w1 hw => ?_,h2⟩,fun ⟨h1,h2⟩ => ⟨fun w1 hw => by rw [h1 w1 hw]; rfl,h2⟩⟩
  have:=h1 w1 hw
  cases hh:r.run P w1 with
  | ok v1 w2 => rw [hh] at this; simp only [Result.andThen_ok,Result.ok.injEq,Next.value.injEq] at this; rw [this.1,this.2]
  | halt x w2 => rw [hh] at this; cases this
 | halt x w' => rfl
theorem wTake_move (x:Operand):wTake P S ⟨d,.move x,t,p,af,g⟩ s w K k = K (putS s d (ev s x)) w:=by
 show ((∀ w1,S w1 → Result.ok (Next.value (ev s x)) w1 = .ok (.value (ev s x)) w1) ∧ ∃ v,Next.value (ev s x) = .value v ∧ K (putS s d v) w) = _
 simp
theorem wTake_assign (x:Operand):wTake P S ⟨d,.assign x,t,p,af,g⟩ s w K k = K (putS s d (ev s x)) w:=by
 show ((∀ w1,S w1 → Result.ok (Next.value (ev s x)) w1 = .ok (.value (ev s x)) w1) ∧ ∃ v,Next.value (ev s x) = .value v ∧ K (putS s d v) w) = _
 simp
theorem wTake_makeFunc (f:Fn) (a b:Array Operand):wTake P S ⟨d,.makeFunc f a b,t,p,af,g⟩ s w K k = K (putS s d (.func f (a.map (ev s)) (b.map (ev s)))) w:=by
 rw [wTake_V _ (pure (.func f (a.map (ev s)) (b.map (ev s)))) rfl]
 simp [stay,stayR]
theorem wTake_pick (c x y:Operand):wTake P S ⟨d,.pick c x y,t,p,af,g⟩ s w K k = pickV (ev s c) (ev s x) (ev s y) (fun v => K (putS s d v) w) .mk:=by
 have h:execOp (ev s) ⟨d,.pick c x y,t,p,af,g⟩ = (do pure (.value (if ← asBool (ev s c) then ev s x else ev s y)):Sem Next):=rfl
 unfold wTake takeV
 rw [h]
 generalize ev s c = v
 cases v <;> simp [stayR,asBool,pickV] <;> rfl
theorem wTake_nilCheck_ptr (x:Operand) (a:Addr) (h:ev s x = .pointer (some a)):wTake P S ⟨d,.nilCheck x,t,p,af,g⟩ s w K k = K (putS s d (.pointer (some a))) w:=by
 have h1:execOp (ev s) ⟨d,.nilCheck x,t,p,af,g⟩ = pure (.value (.pointer (some a))):=by
  simp only [execOp,h]
 unfold wTake takeV
 rw [h1]
 simp [stayR]
theorem wTake_load (e:TypeId) (x:Operand):wTake P S ⟨d,.load e x,t,p,af,g⟩ s w K k = stay S ((Instr.loadAt e (ev s x)).run P w) (fun w => (Instr.loadAt e (ev s x)).run P w) (fun v => K (putS s d v) w) .mk:=wTake_V _ _ rfl
theorem wTake_binOp (b:BinOp) (xt yt:TypeId) (x y:Operand):wTake P S ⟨d,.binOp b xt x y yt,t,p,af,g⟩ s w K k = stay S ((do eqGuard b xt x y (ev s x) (ev s y); binOp b xt (ev s x) (ev s y):Sem Value).run P w) (fun w => (do eqGuard b xt x y (ev s x) (ev s y); binOp b xt (ev s x) (ev s y):Sem Value).run P w) (fun v => K (putS s d v) w) .mk:=wTake_V _ _ rfl
theorem wTake_unOp (b:UnOp) (xt:TypeId) (x:Operand):wTake P S ⟨d,.unOp b xt x,t,p,af,g⟩ s w K k = stay S ((Op.unary b (ev s x)).run P w) (fun w => (Op.unary b (ev s x)).run P w) (fun v => K (putS s d v) w) .mk:=wTake_V _ _ rfl
theorem wTake_convert (a b:TypeId) (x:Operand):wTake P S ⟨d,.convert a b x,t,p,af,g⟩ s w K k = stay S ((convert a b (ev s x)).run P w) (fun w => (convert a b (ev s x)).run P w) (fun v => K (putS s d v) w) .mk:=wTake_V _ _ rfl
theorem wTake_slice (a:TypeId) (x:Operand) (l h m:Option Operand):wTake P S ⟨d,.slice a x l h m,t,p,af,g⟩ s w K k = stay S ((Instr.sliceAt a (ev s x) (l.map (ev s)) (h.map (ev s)) (m.map (ev s))).run P w) (fun w => (Instr.sliceAt a (ev s x) (l.map (ev s)) (h.map (ev s)) (m.map (ev s))).run P w) (fun v => K (putS s d v) w) .mk:=wTake_V _ _ rfl
theorem wTake_fieldAddr (a:TypeId) (x:Operand) (i:Nat):wTake P S ⟨d,.fieldAddr a x i,t,p,af,g⟩ s w K k = stay S ((Instr.fieldAt a (ev s x) i).run P w) (fun w => (Instr.fieldAt a (ev s x) i).run P w) (fun v => K (putS s d v) w) .mk:=wTake_V _ _ rfl
theorem wTake_field (a:TypeId) (x:Operand) (i:Nat):wTake P S ⟨d,.field a x i,t,p,af,g⟩ s w K k = stay S ((Instr.field a (ev s x) i).run P w) (fun w => (Instr.field a (ev s x) i).run P w) (fun v => K (putS s d v) w) .mk:=wTake_V _ _ rfl
theorem wTake_indexAddr (a:TypeId) (x i:Operand):wTake P S ⟨d,.indexAddr a x i,t,p,af,g⟩ s w K k = stay S ((Instr.indexAt a (ev s x) (ev s i)).run P w) (fun w => (Instr.indexAt a (ev s x) (ev s i)).run P w) (fun v => K (putS s d v) w) .mk:=wTake_V _ _ rfl
theorem wTake_index (a:TypeId) (x i:Operand):wTake P S ⟨d,.index a x i,t,p,af,g⟩ s w K k = stay S ((Instr.index a (ev s x) (ev s i)).run P w) (fun w => (Instr.index a (ev s x) (ev s i)).run P w) (fun v => K (putS s d v) w) .mk:=wTake_V _ _ rfl
theorem wTake_lookup (a:TypeId) (x i:Operand) (ok:Bool):wTake P S ⟨d,.lookup a x i ok,t,p,af,g⟩ s w K k = stay S ((Instr.lookup a (ev s x) (ev s i) ok).run P w) (fun w => (Instr.lookup a (ev s x) (ev s i) ok).run P w) (fun v => K (putS s d v) w) .mk:=wTake_V _ _ rfl
theorem wTake_extract (x:Operand) (i:Nat):wTake P S ⟨d,.extract x i,t,p,af,g⟩ s w K k = stay S ((Instr.extract (ev s x) i).run P w) (fun w => (Instr.extract (ev s x) i).run P w) (fun v => K (putS s d v) w) .mk:=wTake_V _ _ rfl
theorem wTake_len (xs:Array Operand) (ts:Array TypeId):wTake P S ⟨d,.call ⟨.builtin .len,xs,ts⟩,t,p,af,g⟩ s w K k = stay S ((Builtin.len_ ts t (xs.map (ev s))).run P w) (fun w => (Builtin.len_ ts t (xs.map (ev s))).run P w) (fun v => K (putS s d v) w) .mk:=wTake_V _ _ rfl
theorem wTake_min (xs:Array Operand) (ts:Array TypeId):wTake P S ⟨d,.call ⟨.builtin .min,xs,ts⟩,t,p,af,g⟩ s w K k = stay S ((Builtin.min_ ts t (xs.map (ev s))).run P w) (fun w => (Builtin.min_ ts t (xs.map (ev s))).run P w) (fun v => K (putS s d v) w) .mk:=wTake_V _ _ rfl
theorem wTake_max (xs:Array Operand) (ts:Array TypeId):wTake P S ⟨d,.call ⟨.builtin .max,xs,ts⟩,t,p,af,g⟩ s w K k = stay S ((Builtin.max_ ts t (xs.map (ev s))).run P w) (fun w => (Builtin.max_ ts t (xs.map (ev s))).run P w) (fun v => K (putS s d v) w) .mk:=wTake_V _ _ rfl
/-- A piece whose order is drawn, by a tree of its orders. -/
theorem draw {id:Nat} {l:List Oper} {Q:Ex → St → World → Prop} {k:Stop (Code.region id l.toArray true,Q)} (t:Tr) (hc:(Region.noSelect l.toArray && chkT l.toArray l.length (Array.replicate l.length false) true t) = true) (S:World → Prop) (hS:S w.drew)
  (h:wT P l.toArray S (Q .normal) t .mk s w.drew):walk P (.region id l.toArray true) Q k s w:=by
 show drawS P l.toArray (Q .normal) s w
 exact draw_tree t hc S hS h
end
@[go_sem] theorem cells_bool (b:Bool):(Value.bool b).cells = #[.bool b]:=(rfl)
@[go_sem] theorem cells_int (k:IntKind) (n:Int):(Value.int k n).cells = #[.int k n]:=(rfl)
@[go_sem] theorem cells_string (s:ByteArray):(Value.string s).cells = #[.string s]:=(rfl)
@[go_sem] theorem cells_pointer (a:Option Addr):(Value.pointer a).cells = #[.pointer a]:=(rfl)
@[go_sem] theorem cells_slice (a:Option Addr) (n c:Nat):(Value.slice a n c).cells = #[.slice a n c]:=(rfl)
@[go_sem] theorem cells_map (r:Option Nat):(Value.map r).cells = #[.map r]:=(rfl)
@[go_sem] theorem cells_func (f:Fn) (a b:Array Value):(Value.func f a b).cells = #[.func f a b]:=(rfl)
@[go_sem] theorem cells_nilFunc:(Value.nilFunc).cells = #[.nilFunc]:=(rfl)
@[go_sem] theorem cells_agg (cs:Array Value):(Value.agg cs).cells = cs:=(rfl)
@[go_sem] theorem zip_lit (l:List Value):l.toArray.zipIdx = l.zipIdx.toArray:=by simp
attribute [go_sem 20000] run_min2 run_max2 run_bs0 run_bs1 run_bs2 run_bs3 run_bs4 run_bs5 run_bs6
@[go_sem] theorem isOne_bool (b:Bool):(Value.bool b).isOne = true:=by cases b <;> rfl
@[go_sem] theorem isOne_int (k:IntKind) (n:Int):(Value.int k n).isOne = true:=by cases k <;> rfl
@[go_sem] theorem isOne_string (s:ByteArray):(Value.string s).isOne = true:=by cases s; rfl
@[go_sem] theorem isOne_pointer (a:Option Addr):(Value.pointer a).isOne = true:=by cases a <;> rfl
@[go_sem] theorem isOne_slice (a:Option Addr) (n c:Nat):(Value.slice a n c).isOne = true:=by cases a <;> rfl
@[go_sem] theorem isOne_map (r:Option Nat):(Value.map r).isOne = true:=by cases r <;> rfl
@[go_sem] theorem isOne_func (f:Fn) (a b:Array Value):(Value.func f a b).isOne = true:=by cases f <;> rfl
attribute [go_sem] buildR convR_int
attribute [go_sem] wV_ok wU_ok wN_value wN_enter mix_at upd_at initS_at putS_some putS_none ev_tmp ev_const ev_global ev_func
 wOp_move wOp_assign wOp_pick pickV_bool wOp_makeFunc wOp_nilCheck_ptr wOp_nilCheck_func wOp_call wOp_len wOp_append wOp_copy wOp_min wOp_max wOp_cap wOp_delete callV_func wOp_alloc wOp_box wOp_build wOp_buildSlice wOp_load wOp_binOp wOp_unOp wOp_convert wOp_makeInterface wOp_makeMap wOp_makeSlice wOp_slice wOp_fieldAddr wOp_field wOp_indexAddr wOp_index wOp_lookup wOp_range wOp_next wOp_entry wOp_extract wOp_mapEntry wOp_typeAssert wOp_store wOp_mapUpdate wOp_insert wOp_entryStore
 wOps_nil wOps_cons wG_none wG_some gB_true gB_false gB_none yV_bool yV_undef yD_some run_eql_slice run_neq_slice walk_skip walk_label walk_goto jumpS_normal jumpS_exit jumpS_ret jumpS_goto nogoS_normal nogoS_exit nogoS_ret thenS_goto blockS_goto walk_region walk_seq walk_block walk_exit walk_ret walk_cond thenS_normal thenS_exit thenS_ret blockS_normal blockS_exit blockS_ret exitS_normal exitS_exit exitS_ret endS_ret endS_normal resSem_none resSem_tmp resSem_tmp2 resSem_tmp3
 wCond_true wCond_false stay_ok wT_done wT_stop wT_take wT_alt wTakeG_none wTakeG_some wTake_move wTake_assign wTake_makeFunc wTake_pick wTake_nilCheck_ptr wTake_len wTake_min wTake_max wTake_load wTake_binOp wTake_unOp wTake_convert wTake_slice wTake_fieldAddr wTake_field wTake_indexAddr wTake_index wTake_extract wTake_lookup
end Go.Vc
