/-
  The frame of a law's statement: whatever reads as its arguments read, the call answers true and leaves all that was there as it was. What is to be known of arguments. By the session itself. The frame of a law's statement whose row lists package-level variables: what they hold is not used. By the session itself. Tables by rising names: plain laws, no program in sight. By the session itself. DERIVED: THE SHELF's CONTRACTS AT THIS DUMP, IN PLAIN WORDS (tools/lay-plain.mjs out of 'YtellahclbhfdiaaGreatDoorLay.lean', which tools/lay-shelf.mjs wrote): THE SAME DECLARATIONS UNDER THE SAME NAMES: 'import', 'namespace', 'open', 'def', 'theorem' AND NOTHING ELSE: no command of the shelf's: FOR A HAND-IN. Each laying: the table of numbers ('.._ren') and one theorem, a field a fact of the dump's own or the kernel's comparison; each contract: ONE APPLICATION.
-/
import Derived.Test.YtellahclbhfdiaaGreatDoorZ02
import Derived.ProofKit
import Derived.Deep.Slices
import Derived.SizedLaws
import Derived.ChangeMaps5
import Derived.LaidMore
import Derived.Lay
import Derived.SevenTiedAt
import Derived.Stop.Joined
import Derived.OpenShut
import Derived.Ground.GgwProg
import Derived.Shelf.GgClosure.StringsRunes
import Derived.Ground.NamesProg
import Derived.Shelf.Strings.SlTrimAscii
import Derived.Shelf.SlIter.Nil
import Derived.Shelf.SortM.Plain
import Derived.Shelf.SortM.SortNone
import Derived.Ground.GgzProg
import Derived.Ground.SlgmProg
import Derived.Test.YtellahclbhfdiaaGreatDoorProg
namespace Go.Vc
set_option linter.unusedSimpArgs false
set_option linter.unusedVariables false
open Go.Deep Go.ChangeShapes Go.WideShapes Go.ChangeAt Go.RowKit Go.ChangeMaps
theorem Nw.below {W W':World} (h:Nw W W'):Below W.heap.size W W':=⟨h.os,h.tape,h.output,h.size,fun k hk => h.block k hk fun h => h⟩
theorem trodAll_below {H:Type} {enc:TypeId × Value → H} {P:Program} (hl:laidOutB P = true) {W W':World} (hb:Below W.heap.size W W') {sp:Nat → Bool}:∀ {ts:List TypeId} {vs:List Value} {ds:List (DataW H)} {ps:List MemPlace},
  ts.all (fun t => P.readableRec t && decide (t < P.types.size)) = true → DataW.TrodAll enc P W 0 (fun _ => true) true ts vs ds ps → (∀ x ∈ ps,x.block < W.heap.size) → (∀ x ∈ ps,sp x.block = true) → DataW.TrodAll enc P W' 0 sp true ts vs ds ps
 | [],[],[],_,_,h,_,_ => h
 | t :: ts,_ :: _,_ :: _,_,hr,⟨p,q,h1,h2,e⟩,hlt,hs => by
  simp only [List.all_cons,Bool.and_eq_true,decide_eq_true_eq] at hr
  exact ⟨p,q,WideElems.Trod_stays hl hr.1.1 hr.1.2 h1 (fun x hx => hb.same (hlt x (by rw [e]; exact List.mem_append_left _ hx))) (fun x hx => hs x (by rw [e]; exact List.mem_append_left _ hx)),
   trodAll_below hl hb hr.2 h2 (fun x hx => hlt x (by rw [e]; exact List.mem_append_right _ hx)) (fun x hx => hs x (by rw [e]; exact List.mem_append_right _ hx)),e⟩
theorem sized_len {H:Type} {enc:TypeId × Value → H} {P:Program} {W:World} {base:Nat} {spare:Nat → Bool} {held:Bool} {ts:List TypeId} {ds:List (DataW H)} {j:Nat} {t e:TypeId} {d:DataW H} {A:Option Addr} {n c:Nat} {ps:List MemPlace}
  (hz:(DataW.weightsEach P ts ds).all (· ≤ reachBytes) = true) (ht:P.underlying t = some (.slice e)) (hts:ts[j]? = some t) (hds:ds[j]? = some d) (h:DataW.Trod enc P W base spare held t (.slice A n c) d ps):n * P.bytesOf e ≤ reachBytes:=by
 obtain ⟨fuel,hf⟩:=h
 rcases DataW.trod_slice ht hf with ⟨e1,_⟩ | ⟨a,len,cap,elems,rest,n',_,e1,e2,_,_,_,hlen,_⟩
 ·simp only [Value.cells,List.cons.injEq,and_true] at e1
  cases e1
  simp
 ·simp only [Value.cells,List.cons.injEq,and_true] at e1
  cases e1
  cases e2
  have:=sized_slice hz hts hds ht
  rw [List.length_map,hlen] at this
  exact Nat.le_trans (Nat.mul_le_mul_right _ (Nat.le_add_right _ _)) this
/-! ### What arguments are -/
section
variable {H:Type} {enc:TypeId × Value → H} {P:Program} {W:World} {base:Nat} {spare:Nat → Bool} {held:Bool}
theorem rd_of_cells {a:Addr} {xs:List Value} (hx:∀ i u,xs[i]? = some u → W.cell? (a.add i) = some u):Rd W (some a) xs:=by
 intro j u hj
 obtain ⟨b,o,s⟩:=a
 have hlt:j < xs.length:=(List.getElem?_eq_some_iff.1 hj).1
 have h0:=hx 0 xs[0] (List.getElem?_eq_getElem (by omega))
 cases s with
 | some s =>
  simp [World.cell?,Addr.add] at h0
  split at h0 <;> cases h0
 | none => exact ⟨b,o,rfl,by rw [← Addr.add_lit]; exact hx j u hj⟩
/-- A row of integers that came in, up to its length. -/
theorem trod_nums {k:IntKind} {t e:TypeId} {fuel:Nat} {cs:List Value} {x:DataW H × List MemPlace} (ht:P.underlying t = some (.slice e)) (he:P.underlying e = some (.int k)) (hc:P.cellsOf e = 1)
  (h:DataW.trod enc P W base spare held fuel t cs = some x):∃ (A:Option Addr) (c:Nat) (zs:List Int),cs = [.slice A zs.length c] ∧ Rd W A (zs.map fun z => .int k z) ∧ zs.length ≤ c ∧ c ≤ maxLen ∧ ∀ z ∈ zs,(Lit.int k z).wf = true:=by
 rcases open_ints ht he hc h with ⟨rfl,_⟩ | ⟨a,len,cap,zs,rfl,_,h1,h2,h3,_,h4,h5⟩
 ·exact ⟨none,0,[],rfl,Rd.nil _ _,Nat.le_refl _,Nat.zero_le _,fun z h => by cases h⟩
 ·have hlen:len ≤ zs.length:=by rw [h3]; split <;> omega
  refine ⟨some a,cap,zs.take len,by rw [List.length_take,Nat.min_eq_left hlen],rd_of_cells fun i u hi => ?_,by rw [List.length_take]; omega,h2,fun z hz => h5 z (List.mem_of_mem_take hz)⟩
  rw [List.getElem?_map,List.getElem?_take] at hi
  split at hi
  ·rename_i hil
   rw [List.getElem?_eq_getElem (by omega)] at hi
   simp only [Option.map_some,Option.some.injEq] at hi
   subst hi
   rw [h4 i (by omega)]
   simp [List.getD,List.getElem?_eq_getElem (show i < zs.length by omega)]
  ·cases hi
theorem trod_bytes {t e:TypeId} {fuel:Nat} {cs:List Value} {x:DataW H × List MemPlace} (ht:P.underlying t = some (.slice e)) (he:P.underlying e = some (.int .u8)) (hc:P.cellsOf e = 1)
  (h:DataW.trod enc P W base spare held fuel t cs = some x):∃ (A:Option Addr) (c:Nat) (xs:List UInt8),cs = [.slice A xs.length c] ∧ Rd W A (xs.map u8) ∧ xs.length ≤ c ∧ c ≤ maxLen:=by
 obtain ⟨A,c,zs,rfl,h1,h2,h3,h4⟩:=trod_nums ht he hc h
 refine ⟨A,c,zs.map fun z => UInt8.ofNat z.toNat,by rw [List.length_map],?_,by rwa [List.length_map],h3⟩
 have e:(zs.map fun z => UInt8.ofNat z.toNat).map u8 = zs.map fun z => .int .u8 z:=by
  rw [List.map_map]
  refine List.map_congr_left fun z hz => ?_
  have:=h4 z hz
  simp [Lit.wf,IntKind.min,IntKind.max,IntKind.signed,IntKind.bits] at this
  simp only [Function.comp,Value.int.injEq,true_and,UInt8.toNat_ofNat']
  omega
 rw [e]
 exact h1
theorem i64_wf {z:Int} (h:(Lit.int .i64 z).wf = true):-9223372036854775808 ≤ z ∧ z ≤ 9223372036854775807:=by
 simp [Lit.wf,IntKind.min,IntKind.max,IntKind.signed,IntKind.bits] at h
 exact h
/-- No slice, no text in it is longer than an address reaches. -/
def Sz (P:Program) (t:TypeId) (d:DataW H):Prop:=∀ n ∈ d.weights P t,n ≤ reachBytes
theorem sz_arg {ts:List TypeId} {ds:List (DataW H)} {j:Nat} {t:TypeId} {d:DataW H} (hz:(DataW.weightsEach P ts ds).all (· ≤ reachBytes) = true) (hts:ts[j]? = some t) (hds:ds[j]? = some d):Sz P t d:=fun n hn => by
 have:=List.all_eq_true.1 hz n (DataW.weights_mem_each hts hds n hn)
 simpa using this
theorem weightsAll_mem {e:TypeId}:∀ {l:List (DataW H)} {d:DataW H},d ∈ l → ∀ n ∈ d.weights P e,n ∈ DataW.weightsAll P e l
 | [],d,h,_,_ => by cases h
 | x :: l,d,h,n,hn => by
  rw [DataW.weightsAll]
  rcases List.mem_cons.1 h with rfl | h
  ·exact List.mem_append_left _ hn
  ·exact List.mem_append_right _ (weightsAll_mem h n hn)
theorem sz_elem {t e:TypeId} {elems rest:List (DataW H)} (h:Sz P t (.slice elems rest)) (ht:P.underlying t = some (.slice e)) {d:DataW H} (hd:d ∈ elems):Sz P e d:=fun n hn => by
 refine h n ?_
 rw [DataW.weights]
 simp only [ht]
 exact List.mem_cons_of_mem _ (List.mem_append_left _ (weightsAll_mem hd n hn))
theorem sz_len {fuel:Nat} {t e:TypeId} {A:Option Addr} {n c:Nat} {x:DataW H × List MemPlace} (h:DataW.trod enc P W base spare held fuel t [.slice A n c] = some x) (hz:Sz P t x.1) (ht:P.underlying t = some (.slice e)):n * P.bytesOf e ≤ reachBytes:=by
 rcases DataW.trod_slice ht h with ⟨e1,_⟩ | ⟨a,len,cap,elems,rest,n',_,e1,rfl,_,_,_,hlen,_⟩
 ·simp only [List.cons.injEq,and_true] at e1
  cases e1
  simp
 ·simp only [List.cons.injEq,and_true] at e1
  cases e1
  have:=hz ((List.map (·.1) elems).length * P.bytesOf e + rest.length * P.bytesOf e) (by
   rw [DataW.weights]
   simp only [ht]
   simp [Nat.add_mul])
  rw [List.length_map,hlen] at this
  omega
/-! The same of an argument. -/
theorem arg_int {k:IntKind} {r:Reach} {t:TypeId} {v:Value} {d:DataW H} {ps:List MemPlace} (ht:P.underlying t = some (.int k)) (hval:∃ b0,Value.okWide P W r b0 t v) (h:DataW.Trod enc P W base spare held t v d ps):∃ z,v = .int k z ∧ (Lit.int k z).wf = true:=by
 obtain ⟨_,hval⟩:=hval
 obtain ⟨z,rfl,_,_,hw⟩:=open_int ht hval h
 exact ⟨z,rfl,hw⟩
end
theorem law_row_laid (X:World → Prop) (hX:∀ w w':World,w.heap = w'.heap → X w → X w') {C:Checked} {os:Os} {f:FuncId} {fn:Func} {s:ChangeSpec} {H:Type} {enc:TypeId × Value → H} {t:TypeId}
  (own:ownKnob C.prog.godebug = none) (started:os.Started) (noInit:C.prog.inits.idxOf? f = none) (hfn:C.prog.funcs[f]? = some fn)
  (witness:∃ (w:World) (tape:Tape) (i:Input),w.os = os ∧ (w.forCall tape i).Shaped C.prog ∧ i.vars = [] ∧ Input.okWide C.prog (w.forCall tape i) .any w.heap.size f i ∧
   ((s.pre enc C.prog fn [] false (w.forCall tape i).memory i.args ∧ X (w.forCall tape i).memory) ∧ sizedMet enc C.prog fn (OpenSpec.ofChange s) false (w.forCall tape i).memory i.args) ∧ ({}:Assume).holds C.prog (lone (Frame.enter C.prog f i.args .normal) [] (w.forCall tape i)))
  (hv:s.vars = []) (hl:laidOutB C.prog = true) (hr:fn.params.toList.all (fun t => C.prog.readableRec t && decide (t < C.prog.types.size)) = true)
  (hrt:fn.resultTypes = #[t]) (ht:C.prog.underlying t = some .bool)
  (hs:∀ ds:List (DataW H),ds.length = fn.params.size → s.fn H ds = { results:=[.lit (.bool true)],args:=ds })
  (walk:∀ (W:World) (args:Array Value) (ds:List (DataW H)) (ps:List MemPlace),DataW.TrodAll enc C.prog W 0 (fun _ => true) true fn.params.toList args.toList ds ps →
   (∀ (j:Nat) t v,fn.params[j]? = some t → args[j]? = some v → ∃ base,Value.okWide C.prog W .any base t v) → (DataW.weightsEach C.prog fn.params.toList ds).all (· ≤ reachBytes) = true → Cal C.prog f args W fun v W' => v = .bool true ∧ Nw W W') :
  ReturnsInHanded {} C os f .any (fun w args => (s.pre enc C.prog fn [] false w args ∧ X w) ∧ sizedMet enc C.prog fn (OpenSpec.ofChange s) false w args) (s.post enc C.prog fn false true false false):=by
 refine returnsInHanded_of_change_and (X:=fun w _ => X w) (fun w w' _ hh h => hX w w' hh h) own started noInit hfn witness ?_
 intro W base args ds gs before hval hW _ hz _ _
 have hW':=hW
 obtain ⟨p,q,hA,hV,rfl,hfz,hnd⟩:=hW
 rw [hv] at hV
 obtain ⟨rfl,rfl⟩:=trodVars_none hV
 refine Calls.mono (walk W args ds p hA (fun j t v h1 h2 => ⟨base,hval j t v h1 h2⟩) (by simpa [ChangeSpec.plain,DataSpec.varTypes,hv] using hz)) fun e W' ⟨v,he,hv',hk⟩ => ?_
 subst he; subst hv'
 have hlen:ds.length = fn.params.size:=by
  have:∀ {ts:List TypeId} {vs:List Value} {ds:List (DataW H)} {ps:List MemPlace},DataW.TrodAll enc C.prog W 0 (fun _ => true) true ts vs ds ps → ds.length = ts.length:=by
   intro ts
   induction ts with
   | nil => intro vs ds ps h; obtain ⟨_,rfl,_⟩:=trodAll_nil h; rfl
   | cons t ts ih => intro vs ds ps h; obtain ⟨_,_,_,_,_,_,rfl,rfl,_,_,h2⟩:=trodAll_cons h; simp [ih h2]
  simpa using this hA
 have e1:s.fn H (ds ++ []) = { results:=[.lit (.bool true)],args:=ds }:=by rw [List.append_nil]; exact hs ds hlen
 have hlt:∀ x ∈ p,x.block < W.heap.size:=fun x hx => hW'.lt x (by simpa using hx)
 refine ⟨_,rfl,ds,[],p ++ [],[],p,[],hW',?_,?_,?_,World.keptBut_mono (fun x hx => ⟨hx,?_⟩) (hk.below.frame (· ∈ p ++ [])),fun h => by cases h⟩
 ·rw [e1,hrt]
  exact trodAll_mk1 (shut_bool ht _)
 ·rw [e1]
  exact trodAll_below hl hk.below hr hA hlt fun x hx => by simpa using hlt x hx
 ·rw [e1,hv]
  rfl
 ·exact .inr (.inl (by simpa using hx))
/-- A name; a text's value. -/
abbrev Nm:=List UInt8
abbrev str (l:List UInt8):Value:=.string ⟨l.toArray⟩
theorem nm_lt_irrefl (a:Nm):¬ a < a:=List.lt_irrefl a
theorem nm_lt_trans {a b c:Nm} (h:a < b) (k:b < c):a < c:=List.lt_trans h k
theorem nm_tri (a b:Nm):a < b ∨ a = b ∨ b < a:=by
 by_cases h1:a < b
 ·exact .inl h1
 ·by_cases h2:b < a
  ·exact .inr (.inr h2)
  ·exact .inr (.inl (List.le_antisymm h2 h1))
theorem nm_ne {a b:Nm} (h:a < b):a ≠ b:=fun e => nm_lt_irrefl b (e ▸ h)
variable {β γ:Type}
/-- What stands under a name. -/
def tLook:List (Nm × β) → Nm → Option β
 | [],_ => none
 | (k,f) :: r,s => if k = s then some f else tLook r s
/-- One more, or another one under its name. -/
def tLay:List (Nm × β) → Nm → β → List (Nm × β)
 | [],s,f => [(s,f)]
 | (k,g) :: r,s,f => if k < s then (k,g) :: tLay r s f else if k = s then (s,f) :: r else (s,f) :: (k,g) :: r
/-- One less. -/
def tGone:List (Nm × β) → Nm → List (Nm × β)
 | [],_ => []
 | (k,g) :: r,s => if k = s then r else (k,g) :: tGone r s
def Srt (l:List (Nm × β)):Prop:=l.Pairwise fun x y => x.1 < y.1
theorem Srt.nil:Srt ([]:List (Nm × β)):=List.Pairwise.nil
theorem Srt.tail {x:Nm × β} {l:List (Nm × β)} (h:Srt (x :: l)):Srt l:=(List.pairwise_cons.1 h).2
theorem Srt.head {x:Nm × β} {l:List (Nm × β)} (h:Srt (x :: l)):∀ y ∈ l,x.1 < y.1:=(List.pairwise_cons.1 h).1
theorem tLook_lay (l:List (Nm × β)) (s:Nm) (f:β) (t:Nm):tLook (tLay l s f) t = if t = s then some f else tLook l t:=by
 induction l with
 | nil => simp [tLay,tLook,eq_comm]
 | cons x l ih =>
  obtain ⟨k,g⟩:=x
  simp only [tLay]
  split
  ·rename_i h
   simp only [tLook,ih]
   by_cases hk:k = t
   ·subst hk
    rw [if_pos rfl,if_neg (nm_ne h),if_pos rfl]
   ·rw [if_neg hk,if_neg hk]
  ·split
   ·rename_i h
    subst h
    simp only [tLook]
    by_cases hk:k = t
    ·subst hk; simp
    ·rw [if_neg hk,if_neg hk,if_neg (fun e => hk e.symm)]
   ·rename_i h1 h2
    simp only [tLook]
    by_cases hs:s = t
    ·subst hs; simp
    ·have hs':¬ t = s:=fun e => hs e.symm
     rw [if_neg hs,if_neg hs']
theorem mem_lay {l:List (Nm × β)} {s:Nm} {f:β} {x:Nm × β} (h:x ∈ tLay l s f):x = (s,f) ∨ x ∈ l:=by
 induction l with
 | nil => simp [tLay] at h; exact .inl h
 | cons y l ih =>
  obtain ⟨k,g⟩:=y
  simp only [tLay] at h
  split at h
  ·rcases List.mem_cons.1 h with rfl | h
   ·exact .inr (by simp)
   ·rcases ih h with h | h
    ·exact .inl h
    ·exact .inr (by simp [h])
  ·split at h
   ·rcases List.mem_cons.1 h with rfl | h
    ·exact .inl rfl
    ·exact .inr (by simp [h])
   ·rcases List.mem_cons.1 h with rfl | h
    ·exact .inl rfl
    ·exact .inr h
theorem mem_gone {l:List (Nm × β)} {s:Nm} {x:Nm × β} (h:x ∈ tGone l s):x ∈ l:=by
 induction l with
 | nil => simp [tGone] at h
 | cons y l ih =>
  obtain ⟨k,g⟩:=y
  simp only [tGone] at h
  split at h
  ·simp [h]
  ·rcases List.mem_cons.1 h with rfl | h
   ·simp
   ·simp [ih h]
theorem Srt.tLay {l:List (Nm × β)} (h:Srt l) (s:Nm) (f:β):Srt (tLay l s f):=by
 induction l with
 | nil => exact List.pairwise_singleton _ _
 | cons x l ih =>
  obtain ⟨k,g⟩:=x
  simp only [Vc.tLay]
  split
  ·rename_i hk
   refine List.pairwise_cons.2 ⟨fun y hy => ?_,ih h.tail⟩
   rcases mem_lay hy with rfl | hy
   ·exact hk
   ·exact h.head y hy
  ·split
   ·rename_i hk
    subst hk
    exact List.pairwise_cons.2 ⟨h.head,h.tail⟩
   ·rename_i h1 h2
    have hlt:s < k:=by
     rcases nm_tri k s with h' | h' | h'
     ·exact absurd h' h1
     ·exact absurd h' h2
     ·exact h'
    refine List.pairwise_cons.2 ⟨fun y hy => ?_,h⟩
    rcases List.mem_cons.1 hy with rfl | hy
    ·exact hlt
    ·exact nm_lt_trans hlt (h.head y hy)
theorem Srt.tGone {l:List (Nm × β)} (h:Srt l) (s:Nm):Srt (tGone l s):=by
 induction l with
 | nil => exact h
 | cons x l ih =>
  obtain ⟨k,g⟩:=x
  simp only [Vc.tGone]
  split
  ·exact h.tail
  ·exact List.pairwise_cons.2 ⟨fun y hy => h.head y (mem_gone hy),ih h.tail⟩
theorem tLook_none {l:List (Nm × β)} {s:Nm} (h:∀ x ∈ l,x.1 ≠ s):tLook l s = none:=by
 induction l with
 | nil => rfl
 | cons x l ih =>
  obtain ⟨k,g⟩:=x
  simp only [tLook]
  rw [if_neg (h (k,g) (by simp))]
  exact ih fun y hy => h y (by simp [hy])
theorem tLook_some {l:List (Nm × β)} {s:Nm} {f:β} (h:tLook l s = some f):(s,f) ∈ l:=by
 induction l with
 | nil => cases h
 | cons x l ih =>
  obtain ⟨k,g⟩:=x
  simp only [tLook] at h
  split at h
  ·rename_i hk
   subst hk
   cases h
   simp
  ·simp [ih h]
theorem tLook_mem {l:List (Nm × β)} (hl:Srt l) {s:Nm} {f:β}:tLook l s = some f ↔ (s,f) ∈ l:=by
 refine ⟨tLook_some,fun h => ?_⟩
 induction l with
 | nil => cases h
 | cons x l ih =>
  obtain ⟨k,g⟩:=x
  simp only [tLook]
  rcases List.mem_cons.1 h with e | h
  ·cases e; simp
  ·rw [if_neg (nm_ne (hl.head _ h))]
   exact ih hl.tail h
theorem tLook_gone {l:List (Nm × β)} (hl:Srt l) (s t:Nm):tLook (tGone l s) t = if t = s then none else tLook l t:=by
 induction l with
 | nil => simp [tGone,tLook]
 | cons x l ih =>
  obtain ⟨k,g⟩:=x
  simp only [tGone]
  split
  ·rename_i hk
   subst hk
   by_cases ht:t = k
   ·subst ht
    rw [if_pos rfl]
    exact tLook_none fun y hy e => nm_ne (hl.head y hy) e.symm
   ·rw [if_neg ht]
    simp only [tLook]
    rw [if_neg (fun e => ht e.symm)]
  ·rename_i hk
   simp only [tLook]
   by_cases ht:k = t
   ·subst ht
    rw [if_pos rfl,if_pos rfl,if_neg hk]
   ·rw [if_neg ht,if_neg ht]
    exact ih hl.tail
theorem tLook_ext {l m:List (Nm × β)} (hl:Srt l) (hm:Srt m) (h:∀ s,tLook l s = tLook m s):l = m:=by
 have hmem:∀ x,x ∈ l ↔ x ∈ m:=fun ⟨s,f⟩ => by rw [← tLook_mem hl,← tLook_mem hm,h]
 have ndl:Srt l:=hl
 have ndm:Srt m:=hm
 have nd:∀ {l:List (Nm × β)},Srt l → l.Nodup:=by
  intro l h
  unfold Srt at h
  exact h.imp fun {a b} h e => nm_ne h (congrArg Prod.fst e)
 unfold Srt at hl hm
 have hp:l.Perm m:=(List.perm_ext_iff_of_nodup (nd ndl) (nd ndm)).2 hmem
 refine hp.eq_of_pairwise (le:=fun x y => x.1 < y.1) ?_ hl hm
 intro a b _ _ h1 h2
 exact absurd (nm_lt_trans h1 h2) (nm_lt_irrefl _)
theorem gone_none {l:List (Nm × β)} {s:Nm} (h:tLook l s = none):tGone l s = l:=by
 induction l with
 | nil => rfl
 | cons x l ih =>
  obtain ⟨k,g⟩:=x
  simp only [tLook] at h
  split at h
  ·cases h
  ·rename_i hk
   simp only [tGone]
   rw [if_neg hk,ih h]
theorem lay_len {l:List (Nm × β)} (hl:Srt l) (s:Nm) (f:β):(tLay l s f).length = if (tLook l s).isSome then l.length else l.length + 1:=by
 induction l with
 | nil => rfl
 | cons x l ih =>
  obtain ⟨k,g⟩:=x
  simp only [tLay,tLook]
  split
  ·rename_i hk
   have hk':¬ k = s:=nm_ne hk
   simp only [if_neg hk',List.length_cons,ih hl.tail]
   split <;> rfl
  ·split
   ·rfl
   ·rename_i h1 h2
    have hlt:s < k:=by
     rcases nm_tri k s with h' | h' | h'
     ·exact absurd h' h1
     ·exact absurd h' h2
     ·exact h'
    rw [tLook_none fun y hy e => nm_ne (nm_lt_trans hlt (hl.head y hy)) e.symm]
    rfl
theorem gone_len (l:List (Nm × β)) (s:Nm):(tGone l s).length = if (tLook l s).isSome then l.length - 1 else l.length:=by
 induction l with
 | nil => rfl
 | cons x l ih =>
  obtain ⟨k,g⟩:=x
  simp only [tGone,tLook]
  split
  ·simp
  ·rw [List.length_cons,ih]
   cases hl:tLook l s with
   | none => simp
   | some f =>
    have:=List.length_pos_of_mem (tLook_some hl)
    simp
    omega
/-- All values turned. -/
def mapv (g:β → γ) (l:List (Nm × β)):List (Nm × γ):=l.map fun x => (x.1,g x.2)
theorem tLook_mapv (g:β → γ) (l:List (Nm × β)) (s:Nm):tLook (mapv g l) s = (tLook l s).map g:=by
 induction l with
 | nil => rfl
 | cons x l ih =>
  obtain ⟨k,f⟩:=x
  simp only [mapv,List.map_cons,tLook]
  split
  ·rfl
  ·exact ih
theorem Srt.mapv {l:List (Nm × β)} (h:Srt l) (g:β → γ):Srt (mapv g l):=by
 unfold Srt Vc.mapv at *
 rw [List.pairwise_map]
 exact h
/-- A number of each, added up. -/
def sumv (n:β → Nat) (l:List (Nm × β)):Nat:=(l.map fun x => n x.2).sum
theorem sumv_lay {l:List (Nm × β)} (hl:Srt l) (n:β → Nat) (s:Nm) (f:β):sumv n (tLay l s f) + ((tLook l s).map n).getD 0 = sumv n l + n f:=by
 unfold sumv
 induction l with
 | nil => simp [tLay,tLook]
 | cons x l ih =>
  obtain ⟨k,g⟩:=x
  simp only [tLay,tLook]
  split
  ·rename_i hk
   have:=ih hl.tail
   rw [if_neg (nm_ne hk)]
   simp only [List.map_cons,List.sum_cons]
   omega
  ·split
   ·simp only [List.map_cons,List.sum_cons,Option.map_some,Option.getD_some]
    omega
   ·rename_i h1 h2
    have hlt:s < k:=by
     rcases nm_tri k s with h' | h' | h'
     ·exact absurd h' h1
     ·exact absurd h' h2
     ·exact h'
    rw [tLook_none fun y hy e => nm_ne (nm_lt_trans hlt (hl.head y hy)) e.symm]
    simp only [List.map_cons,List.sum_cons,Option.map_none,Option.getD_none]
    omega
theorem sumv_gone (l:List (Nm × β)) (n:β → Nat) (s:Nm):sumv n (tGone l s) + ((tLook l s).map n).getD 0 = sumv n l:=by
 unfold sumv
 induction l with
 | nil => simp [tGone,tLook]
 | cons x l ih =>
  obtain ⟨k,g⟩:=x
  simp only [tGone,tLook]
  split
  ·simp only [List.map_cons,List.sum_cons,Option.map_some,Option.getD_some]
   omega
  ·simp only [List.map_cons,List.sum_cons]
   omega
theorem sumv_ge {l:List (Nm × β)} {s:Nm} {f:β} (n:β → Nat) (h:tLook l s = some f):n f ≤ sumv n l:=by
 have:=sumv_gone l n s
 rw [h] at this
 simp at this
 omega
/-- A number of each that is still to come, added up. -/
def sumL (n:β → Nat) (p:Nm → Bool) (l:List (Nm × β)):Nat:=(l.map fun x => if p x.1 then n x.2 else 0).sum
theorem sumL_all (n:β → Nat) (l:List (Nm × β)):sumL n (fun _ => true) l = sumv n l:=by simp [sumL,sumv]
theorem sumL_none (n:β → Nat) (p:Nm → Bool) (l:List (Nm × β)) (h:∀ s f,tLook l s = some f → p s = false) (hl:Srt l):sumL n p l = 0:=by
 unfold sumL
 have:∀ x ∈ l,(if p x.1 then n x.2 else 0) = 0:=fun ⟨s,f⟩ hx => by
  rw [h s f ((tLook_mem hl).2 hx)]; rfl
 induction l with
 | nil => rfl
 | cons x l ih =>
  rw [List.map_cons,List.sum_cons,this x (by simp),ih (fun s f h' => ?_) hl.tail fun y hy => this y (by simp [hy])]
  refine h s f ?_
  rw [tLook_mem hl]
  exact List.mem_cons_of_mem _ (tLook_some h')
theorem sumL_step (n:β → Nat) (p:Nm → Bool) {l:List (Nm × β)} (hl:Srt l) {s:Nm} {f:β} (h:tLook l s = some f) (hp:p s = true):sumL n (fun t => p t && !decide (t = s)) l + n f = sumL n p l:=by
 unfold sumL
 induction l with
 | nil => cases h
 | cons x l ih =>
  obtain ⟨k,g⟩:=x
  simp only [tLook] at h
  simp only [List.map_cons,List.sum_cons]
  split at h
  ·rename_i hk
   subst hk
   cases h
   have e:(l.map fun x => if (p x.1 && !decide (x.1 = k)) = true then n x.2 else 0) = l.map fun x => if p x.1 = true then n x.2 else 0:=by
    refine List.map_congr_left fun y hy => ?_
    have:=nm_ne (hl.head y hy)
    have hd:decide (y.1 = k) = false:=by simpa using fun e:y.1 = k => this e.symm
    rw [hd]
    simp
   rw [e]
   simp [hp]
   omega
  ·rename_i hk
   have ih:=ih hl.tail h
   have hd:(p k && !decide (k = s)) = p k:=by simp [hk]
   simp only [] at ih
   rw [hd]
   omega
/-- The names. -/
def keysA (l:List (Nm × β)):List Nm:=l.map (·.1)
theorem tLook_keys {l:List (Nm × β)} (s:Nm):(tLook l s).isSome = true ↔ s ∈ keysA l:=by
 induction l with
 | nil => simp [tLook,keysA]
 | cons x l ih =>
  obtain ⟨k,g⟩:=x
  simp only [tLook,keysA,List.map_cons,List.mem_cons]
  split
  ·rename_i h; subst h; simp
  ·rename_i h
   rw [ih]
   have h':¬ s = k:=fun e => h e.symm
   simp [keysA,h']
end Go.Vc
namespace Go.Proofs
open Go.Shelf
def Tryz.keys241_ren:Go.Shelf.Ren:=⟨fun | 7 => 241 | 10 => 259 | n => n,fun | 23 => 129 | 26 => 9 | 3 => 135 | 28 => 288 | 0 => 0 | 27 => 287 | 33 => 87 | 4 => 4 | n => n,fun | n => n⟩
theorem Tryz.keys241:Go.Proofs.SlLaysZ.n7 Tryz.prog Tryz.keys241_ren:={
 mixed:=by kernel_rfl
 f7:=⟨Tryz.f241.name,by decide,Tryz.func241.trans (congrArg some (by kernel_rfl))⟩
 f10:=⟨Tryz.f259.name,by decide,Tryz.func259.trans (congrArg some (by kernel_rfl))⟩
 t0:=Tryz.underlying0
 a0:=Tryz.isAgg0
 z0:=Tryz.sizeOf0
 v0:=Tryz.zeroValue0
 t4:=Tryz.underlying4
 a4:=Tryz.isAgg4
 z4:=Tryz.sizeOf4
 v4:=Tryz.zeroValue4
 t23:=Tryz.underlying129
 a23:=Tryz.isAgg129
 z23:=Tryz.sizeOf129
 v23:=Tryz.zeroValue129
 t26:=Tryz.underlying9
 a26:=Tryz.isAgg9
 z26:=Tryz.sizeOf9
 v26:=Tryz.zeroValue9
 t27:=Tryz.underlying287
 a27:=Tryz.isAgg287
 z27:=Tryz.sizeOf287
 v27:=Tryz.zeroValue287
 t28:=Tryz.underlying288
 a28:=Tryz.isAgg288
 z28:=Tryz.sizeOf288
 v28:=Tryz.zeroValue288
 t33:=Tryz.underlying87
 a33:=Tryz.isAgg87
 z33:=Tryz.sizeOf87
 v33:=Tryz.zeroValue87 }
def Tryz.sorted240_ren:Go.Shelf.Ren:=⟨fun | 6 => 240 | 8 => 258 | 9 => 114 | 11 => 266 | 13 => 175 | 12 => 174 | 23 => 219 | 24 => 220 | 14 => 210 | 15 => 211 | 16 => 212 | 17 => 213 | 18 => 214 | 19 => 215 | 20 => 216 | 21 => 217 | 22 => 218 | 25 => 244 | 26 => 245 | 27 => 246 | 28 => 247 | 29 => 248 | 30 => 249 | 31 => 260 | n => n,fun | 26 => 9 | 28 => 288 | 24 => 55 | 0 => 0 | 3 => 3 | 37 => 150 | 48 => 219 | 50 => 149 | 4 => 4 | 40 => 264 | 39 => 263 | 45 => 189 | 5 => 5 | 9 => 9 | 51 => 291 | 55 => 82 | 57 => 300 | 58 => 62 | 33 => 87 | n => n,fun | n => n⟩
theorem Tryz.sorted240:Go.Proofs.SlLaysZ.n6 Tryz.prog Tryz.sorted240_ren:={
 mixed:=by kernel_rfl
 f6:=⟨Tryz.f240.name,by decide,Tryz.func240.trans (congrArg some (by kernel_rfl))⟩
 f8:=⟨Tryz.f258.name,by decide,Tryz.func258.trans (congrArg some (by kernel_rfl))⟩
 f11:=⟨Tryz.f266.name,by decide,Tryz.func266.trans (congrArg some (by kernel_rfl))⟩
 t0:=Tryz.underlying0
 a0:=Tryz.isAgg0
 z0:=Tryz.sizeOf0
 v0:=Tryz.zeroValue0
 t24:=Tryz.underlying55
 a24:=Tryz.isAgg55
 z24:=Tryz.sizeOf55
 v24:=Tryz.zeroValue55
 t26:=Tryz.underlying9
 a26:=Tryz.isAgg9
 z26:=Tryz.sizeOf9
 v26:=Tryz.zeroValue9
 t28:=Tryz.underlying288
 a28:=Tryz.isAgg288
 z28:=Tryz.sizeOf288
 v28:=Tryz.zeroValue288
 i26:=by kernel_rfl }
def Tryz.sort114_ren:Go.Shelf.Ren:=⟨fun | 6 => 114 | 8 => 175 | 9 => 174 | 19 => 219 | 20 => 220 | 21 => 210 | 22 => 211 | 23 => 212 | 24 => 213 | 25 => 214 | 26 => 215 | 27 => 216 | 28 => 217 | 29 => 218 | 36 => 244 | 31 => 245 | 32 => 246 | 37 => 247 | 38 => 248 | 39 => 249 | 41 => 260 | n => n,fun | 27 => 55 | 29 => 9 | 3 => 3 | 32 => 150 | 26 => 55 | 0 => 0 | 44 => 219 | 46 => 149 | 4 => 4 | 36 => 264 | 35 => 263 | 41 => 189 | 5 => 5 | 9 => 9 | 53 => 291 | 57 => 82 | 63 => 300 | 64 => 62 | n => n,fun | n => n⟩
theorem Tryz.sort114:Go.Proofs.SlLaysM.n6 Tryz.prog Tryz.sort114_ren:={
 mixed:=by kernel_rfl
 f6:=⟨Tryz.f114.name,by decide,Tryz.func114.trans (congrArg some (by kernel_rfl))⟩
 f8:=Tryz.func175.trans (congrArg some (by kernel_rfl))
 f9:=⟨Tryz.f174.name,by decide,Tryz.func174.trans (congrArg some (by kernel_rfl))⟩
 f19:=Tryz.func219.trans (congrArg some (by kernel_rfl))
 f20:=Tryz.func220.trans (congrArg some (by kernel_rfl))
 f21:=⟨Tryz.f210.name,by decide,Tryz.func210.trans (congrArg some (by kernel_rfl))⟩
 f22:=⟨Tryz.f211.name,by decide,Tryz.func211.trans (congrArg some (by kernel_rfl))⟩
 f23:=⟨Tryz.f212.name,by decide,Tryz.func212.trans (congrArg some (by kernel_rfl))⟩
 f24:=⟨Tryz.f213.name,by decide,Tryz.func213.trans (congrArg some (by kernel_rfl))⟩
 f25:=⟨Tryz.f214.name,by decide,Tryz.func214.trans (congrArg some (by kernel_rfl))⟩
 f26:=⟨Tryz.f215.name,by decide,Tryz.func215.trans (congrArg some (by kernel_rfl))⟩
 f27:=⟨Tryz.f216.name,by decide,Tryz.func216.trans (congrArg some (by kernel_rfl))⟩
 f28:=⟨Tryz.f217.name,by decide,Tryz.func217.trans (congrArg some (by kernel_rfl))⟩
 f29:=⟨Tryz.f218.name,by decide,Tryz.func218.trans (congrArg some (by kernel_rfl))⟩
 f31:=Tryz.func245.trans (congrArg some (by kernel_rfl))
 f32:=Tryz.func246.trans (congrArg some (by kernel_rfl))
 f36:=⟨Tryz.f244.name,by decide,Tryz.func244.trans (congrArg some (by kernel_rfl))⟩
 f37:=⟨Tryz.f247.name,by decide,Tryz.func247.trans (congrArg some (by kernel_rfl))⟩
 f38:=⟨Tryz.f248.name,by decide,Tryz.func248.trans (congrArg some (by kernel_rfl))⟩
 f39:=⟨Tryz.f249.name,by decide,Tryz.func249.trans (congrArg some (by kernel_rfl))⟩
 f41:=⟨Tryz.f260.name,by decide,Tryz.func260.trans (congrArg some (by kernel_rfl))⟩
 t0:=Tryz.underlying0
 a0:=Tryz.isAgg0
 z0:=Tryz.sizeOf0
 v0:=Tryz.zeroValue0
 t3:=Tryz.underlying3
 a3:=Tryz.isAgg3
 z3:=Tryz.sizeOf3
 v3:=Tryz.zeroValue3
 t4:=Tryz.underlying4
 a4:=Tryz.isAgg4
 z4:=Tryz.sizeOf4
 v4:=Tryz.zeroValue4
 t5:=Tryz.underlying5
 a5:=Tryz.isAgg5
 z5:=Tryz.sizeOf5
 v5:=Tryz.zeroValue5
 t9:=Tryz.underlying9
 a9:=Tryz.isAgg9
 z9:=Tryz.sizeOf9
 v9:=Tryz.zeroValue9
 t26:=Tryz.underlying55
 a26:=Tryz.isAgg55
 z26:=Tryz.sizeOf55
 v26:=Tryz.zeroValue55
 t27:=Tryz.underlying55
 a27:=Tryz.isAgg55
 z27:=Tryz.sizeOf55
 v27:=Tryz.zeroValue55
 t29:=Tryz.underlying9
 a29:=Tryz.isAgg9
 z29:=Tryz.sizeOf9
 v29:=Tryz.zeroValue9
 t32:=Tryz.underlying150
 a32:=Tryz.isAgg150
 z32:=Tryz.sizeOf150
 v32:=Tryz.zeroValue150
 t35:=Tryz.underlying263
 a35:=Tryz.isAgg263
 z35:=Tryz.sizeOf263
 v35:=Tryz.zeroValue263
 t36:=Tryz.underlying264
 a36:=Tryz.isAgg264
 z36:=Tryz.sizeOf264
 v36:=Tryz.zeroValue264
 t41:=Tryz.underlying189
 a41:=Tryz.isAgg189
 z41:=Tryz.sizeOf189
 v41:=Tryz.zeroValue189
 t44:=Tryz.underlying219
 a44:=Tryz.isAgg219
 z44:=Tryz.sizeOf219
 v44:=Tryz.zeroValue219
 t46:=Tryz.underlying149
 a46:=Tryz.isAgg149
 z46:=Tryz.sizeOf149
 v46:=Tryz.zeroValue149
 t53:=Tryz.underlying291
 a53:=Tryz.isAgg291
 z53:=Tryz.sizeOf291
 v53:=Tryz.zeroValue291
 t57:=Tryz.underlying82
 a57:=Tryz.isAgg82
 z57:=Tryz.sizeOf82
 v57:=Tryz.zeroValue82
 t63:=Tryz.underlying300
 a63:=Tryz.isAgg300
 z63:=Tryz.sizeOf300
 v63:=Tryz.zeroValue300
 t64:=Tryz.underlying62
 a64:=Tryz.isAgg62
 z64:=Tryz.sizeOf62
 v64:=Tryz.zeroValue62 }
def Tryz.sort151_ren:Go.Shelf.Ren:=⟨fun | 5 => 151 | 8 => 175 | 7 => 199 | 19 => 219 | 20 => 220 | 10 => 229 | 11 => 230 | 12 => 231 | 13 => 232 | 14 => 233 | 15 => 234 | 16 => 235 | 17 => 236 | 18 => 237 | 30 => 254 | 31 => 245 | 32 => 246 | 33 => 255 | 34 => 256 | 35 => 257 | 40 => 265 | n => n,fun | 23 => 22 | 25 => 3 | 3 => 3 | 32 => 150 | 22 => 22 | 0 => 0 | 44 => 219 | 46 => 149 | 4 => 4 | 36 => 264 | 35 => 263 | 41 => 189 | 5 => 5 | 9 => 9 | 53 => 291 | 57 => 82 | 63 => 300 | 64 => 62 | n => n,fun | n => n⟩
theorem Tryz.sort151:Go.Proofs.SlLaysM.n5 Tryz.prog Tryz.sort151_ren:={
 mixed:=by kernel_rfl
 f5:=⟨Tryz.f151.name,by decide,Tryz.func151.trans (congrArg some (by kernel_rfl))⟩
 f7:=⟨Tryz.f199.name,by decide,Tryz.func199.trans (congrArg some (by kernel_rfl))⟩
 f8:=Tryz.func175.trans (congrArg some (by kernel_rfl))
 f10:=⟨Tryz.f229.name,by decide,Tryz.func229.trans (congrArg some (by kernel_rfl))⟩
 f11:=⟨Tryz.f230.name,by decide,Tryz.func230.trans (congrArg some (by kernel_rfl))⟩
 f12:=⟨Tryz.f231.name,by decide,Tryz.func231.trans (congrArg some (by kernel_rfl))⟩
 f13:=⟨Tryz.f232.name,by decide,Tryz.func232.trans (congrArg some (by kernel_rfl))⟩
 f14:=⟨Tryz.f233.name,by decide,Tryz.func233.trans (congrArg some (by kernel_rfl))⟩
 f15:=⟨Tryz.f234.name,by decide,Tryz.func234.trans (congrArg some (by kernel_rfl))⟩
 f16:=⟨Tryz.f235.name,by decide,Tryz.func235.trans (congrArg some (by kernel_rfl))⟩
 f17:=⟨Tryz.f236.name,by decide,Tryz.func236.trans (congrArg some (by kernel_rfl))⟩
 f18:=⟨Tryz.f237.name,by decide,Tryz.func237.trans (congrArg some (by kernel_rfl))⟩
 f19:=Tryz.func219.trans (congrArg some (by kernel_rfl))
 f20:=Tryz.func220.trans (congrArg some (by kernel_rfl))
 f30:=⟨Tryz.f254.name,by decide,Tryz.func254.trans (congrArg some (by kernel_rfl))⟩
 f31:=Tryz.func245.trans (congrArg some (by kernel_rfl))
 f32:=Tryz.func246.trans (congrArg some (by kernel_rfl))
 f33:=⟨Tryz.f255.name,by decide,Tryz.func255.trans (congrArg some (by kernel_rfl))⟩
 f34:=⟨Tryz.f256.name,by decide,Tryz.func256.trans (congrArg some (by kernel_rfl))⟩
 f35:=⟨Tryz.f257.name,by decide,Tryz.func257.trans (congrArg some (by kernel_rfl))⟩
 f40:=⟨Tryz.f265.name,by decide,Tryz.func265.trans (congrArg some (by kernel_rfl))⟩
 t0:=Tryz.underlying0
 a0:=Tryz.isAgg0
 z0:=Tryz.sizeOf0
 v0:=Tryz.zeroValue0
 t3:=Tryz.underlying3
 a3:=Tryz.isAgg3
 z3:=Tryz.sizeOf3
 v3:=Tryz.zeroValue3
 t4:=Tryz.underlying4
 a4:=Tryz.isAgg4
 z4:=Tryz.sizeOf4
 v4:=Tryz.zeroValue4
 t5:=Tryz.underlying5
 a5:=Tryz.isAgg5
 z5:=Tryz.sizeOf5
 v5:=Tryz.zeroValue5
 t9:=Tryz.underlying9
 a9:=Tryz.isAgg9
 z9:=Tryz.sizeOf9
 v9:=Tryz.zeroValue9
 t22:=Tryz.underlying22
 a22:=Tryz.isAgg22
 z22:=Tryz.sizeOf22
 v22:=Tryz.zeroValue22
 t23:=Tryz.underlying22
 a23:=Tryz.isAgg22
 z23:=Tryz.sizeOf22
 v23:=Tryz.zeroValue22
 t25:=Tryz.underlying3
 a25:=Tryz.isAgg3
 z25:=Tryz.sizeOf3
 v25:=Tryz.zeroValue3
 t32:=Tryz.underlying150
 a32:=Tryz.isAgg150
 z32:=Tryz.sizeOf150
 v32:=Tryz.zeroValue150
 t35:=Tryz.underlying263
 a35:=Tryz.isAgg263
 z35:=Tryz.sizeOf263
 v35:=Tryz.zeroValue263
 t36:=Tryz.underlying264
 a36:=Tryz.isAgg264
 z36:=Tryz.sizeOf264
 v36:=Tryz.zeroValue264
 t41:=Tryz.underlying189
 a41:=Tryz.isAgg189
 z41:=Tryz.sizeOf189
 v41:=Tryz.zeroValue189
 t44:=Tryz.underlying219
 a44:=Tryz.isAgg219
 z44:=Tryz.sizeOf219
 v44:=Tryz.zeroValue219
 t46:=Tryz.underlying149
 a46:=Tryz.isAgg149
 z46:=Tryz.sizeOf149
 v46:=Tryz.zeroValue149
 t53:=Tryz.underlying291
 a53:=Tryz.isAgg291
 z53:=Tryz.sizeOf291
 v53:=Tryz.zeroValue291
 t57:=Tryz.underlying82
 a57:=Tryz.isAgg82
 z57:=Tryz.sizeOf82
 v57:=Tryz.zeroValue82
 t63:=Tryz.underlying300
 a63:=Tryz.isAgg300
 z63:=Tryz.sizeOf300
 v63:=Tryz.zeroValue300
 t64:=Tryz.underlying62
 a64:=Tryz.isAgg62
 z64:=Tryz.sizeOf62
 v64:=Tryz.zeroValue62 }
def Tryz.trim138_ren:Go.Shelf.Ren:=⟨fun | 160 => 138 | 232 => 191 | 231 => 190 | 227 => 192 | 234 => 194 | 233 => 193 | 236 => 196 | 235 => 195 | 228 => 225 | 271 => 228 | 151 => 227 | 197 => 226 | 120 => 253 | 152 => 252 | 260 => 251 | 137 => 261 | 119 => 262 | 224 => 263 | 225 => 264 | 217 => 267 | 266 => 268 | n => n,fun | 9 => 9 | 4 => 4 | 3 => 3 | 5 => 5 | 117 => 247 | 116 => 246 | 0 => 0 | 124 => 250 | 21 => 21 | 105 => 276 | 46 => 150 | 119 => 302 | 139 => 305 | 138 => 304 | n => n,fun | 3 => 1 | 4 => 2 | n => n⟩
theorem Tryz.trim138:Go.Proofs.Lays.n160 Tryz.prog Tryz.trim138_ren:={
 mixed:=by kernel_rfl
 f119:=Tryz.func262.trans (congrArg some (by kernel_rfl))
 f120:=Tryz.func253.trans (congrArg some (by kernel_rfl))
 f137:=Tryz.func261.trans (congrArg some (by kernel_rfl))
 f151:=Tryz.func227.trans (congrArg some (by kernel_rfl))
 f152:=Tryz.func252.trans (congrArg some (by kernel_rfl))
 f160:=Tryz.func138.trans (congrArg some (by kernel_rfl))
 f197:=Tryz.func226.trans (congrArg some (by kernel_rfl))
 f217:=Tryz.func267.trans (congrArg some (by kernel_rfl))
 f224:=Tryz.func263.trans (congrArg some (by kernel_rfl))
 f225:=Tryz.func264.trans (congrArg some (by kernel_rfl))
 f227:=Tryz.func192.trans (congrArg some (by kernel_rfl))
 f228:=Tryz.func225.trans (congrArg some (by kernel_rfl))
 f231:=Tryz.func190.trans (congrArg some (by kernel_rfl))
 f232:=Tryz.func191.trans (congrArg some (by kernel_rfl))
 f233:=Tryz.func193.trans (congrArg some (by kernel_rfl))
 f234:=Tryz.func194.trans (congrArg some (by kernel_rfl))
 f235:=Tryz.func195.trans (congrArg some (by kernel_rfl))
 f236:=Tryz.func196.trans (congrArg some (by kernel_rfl))
 f260:=Tryz.func251.trans (congrArg some (by kernel_rfl))
 f266:=Tryz.func268.trans (congrArg some (by kernel_rfl))
 f271:=Tryz.func228.trans (congrArg some (by kernel_rfl))
 t0:=Tryz.underlying0
 a0:=Tryz.isAgg0
 z0:=Tryz.sizeOf0
 v0:=Tryz.zeroValue0
 t3:=Tryz.underlying3
 a3:=Tryz.isAgg3
 z3:=Tryz.sizeOf3
 v3:=Tryz.zeroValue3
 t4:=Tryz.underlying4
 a4:=Tryz.isAgg4
 z4:=Tryz.sizeOf4
 v4:=Tryz.zeroValue4
 t5:=Tryz.underlying5
 a5:=Tryz.isAgg5
 z5:=Tryz.sizeOf5
 v5:=Tryz.zeroValue5
 t9:=Tryz.underlying9
 a9:=Tryz.isAgg9
 z9:=Tryz.sizeOf9
 v9:=Tryz.zeroValue9
 t21:=Tryz.underlying21
 a21:=Tryz.isAgg21
 z21:=Tryz.sizeOf21
 v21:=Tryz.zeroValue21
 t46:=Tryz.underlying150
 a46:=Tryz.isAgg150
 z46:=Tryz.sizeOf150
 v46:=Tryz.zeroValue150
 t105:=Tryz.underlying276
 a105:=Tryz.isAgg276
 z105:=Tryz.sizeOf276
 v105:=Tryz.zeroValue276
 t116:=Tryz.underlying246
 a116:=Tryz.isAgg246
 z116:=Tryz.sizeOf246
 t117:=Tryz.underlying247
 a117:=Tryz.isAgg247
 z117:=Tryz.sizeOf247
 v117:=Tryz.zeroValue247
 t119:=Tryz.underlying302
 a119:=Tryz.isAgg302
 z119:=Tryz.sizeOf302
 t124:=Tryz.underlying250
 a124:=Tryz.isAgg250
 z124:=Tryz.sizeOf250
 v124:=Tryz.zeroValue250
 t138:=Tryz.underlying304
 a138:=Tryz.isAgg304
 z138:=Tryz.sizeOf304
 v138:=Tryz.zeroValue304
 t139:=Tryz.underlying305
 a139:=Tryz.isAgg305
 z139:=Tryz.sizeOf305
 v139:=Tryz.zeroValue305
 g3:=by kernel_rfl
 g4:=by kernel_rfl }
def Tryz.idxf139_ren:Go.Shelf.Ren:=⟨fun | 15 => 139 | 20 => 197 | n => n,fun | 9 => 9 | 23 => 210 | 3 => 3 | 4 => 4 | 0 => 0 | 21 => 21 | n => n,fun | n => n⟩
theorem Tryz.idxf139:Go.Proofs.LaysGw.n15 Tryz.prog Tryz.idxf139_ren:={
 mixed:=by kernel_rfl
 f15:=Tryz.func139.trans (congrArg some (by kernel_rfl))
 f20:=Tryz.func197.trans (congrArg some (by kernel_rfl))
 t0:=Tryz.underlying0
 a0:=Tryz.isAgg0
 z0:=Tryz.sizeOf0
 v0:=Tryz.zeroValue0
 i0:=by kernel_rfl
 t3:=Tryz.underlying3
 a3:=Tryz.isAgg3
 z3:=Tryz.sizeOf3
 v3:=Tryz.zeroValue3
 i3:=by kernel_rfl
 t4:=Tryz.underlying4
 a4:=Tryz.isAgg4
 z4:=Tryz.sizeOf4
 v4:=Tryz.zeroValue4
 i4:=by kernel_rfl
 t9:=Tryz.underlying9
 a9:=Tryz.isAgg9
 z9:=Tryz.sizeOf9
 v9:=Tryz.zeroValue9
 i9:=by kernel_rfl
 t21:=Tryz.underlying21
 a21:=Tryz.isAgg21
 z21:=Tryz.sizeOf21
 v21:=Tryz.zeroValue21
 i21:=by kernel_rfl
 t23:=Tryz.underlying210
 a23:=Tryz.isAgg210
 z23:=Tryz.sizeOf210
 v23:=Tryz.zeroValue210
 i23:=by kernel_rfl }
end Go.Proofs
