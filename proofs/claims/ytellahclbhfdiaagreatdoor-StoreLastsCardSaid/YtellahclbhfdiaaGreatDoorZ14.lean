/-
  Maps: what a lookup, a store, a delete, a step of a range do to a map whose keys are plain. By the session itself. bytes.Join and octet.Join walked. By the session itself.
-/
import Derived.Test.YtellahclbhfdiaaGreatDoorZ02
import Derived.Maps.RangeRun
import Derived.Test.YtellahclbhfdiaaGreatDoorZ04
namespace Go.Vc
set_option linter.unusedSimpArgs false
set_option linter.unusedVariables false
set_option linter.unusedSectionVars false
open Go.Instr
/-- Plain keys: κ tells how one lies in memory. -/
structure KeyS {α:Type} [DecidableEq α] (P:Program) (kt:TypeId) (κ:α → Value):Prop where
 desc:∃ d,P.underlying kt = some d ∧ ∀ a b,sameNow d (κ a) (κ b) = some (decide (a = b))
 check:∀ (b:Bool) (a:α) (w:World),(checkKey b 10000 kt (κ a)).run P w = .ok () w
 bits:∀ a,sameBits 10000 (κ a) (κ a) = true
 inj:∀ a b,κ a = κ b → a = b
theorem keyStr {P:Program} {kt:TypeId} (h:P.underlying kt = some .string):KeyS P kt (fun s:ByteArray => .string s) where
 desc:=⟨_,h,fun a b => by
  show some (a == b) = some (decide (a = b))
  congr 1
  rw [Bool.eq_iff_iff,MapKept.bytes_beq,decide_eq_true_iff]⟩
 check b a w:=by unfold checkKey; simp [run_underlying h]
 bits a:=by
  show (a == a) = true
  exact (MapKept.bytes_beq a a).2 rfl
 inj a b e:=by injection e
section
variable {α:Type} [DecidableEq α] {P:Program} {kt:TypeId} {κ:α → Value}
theorem findNow_ok {d:TypeDesc} (hs:∀ a b,sameNow d (κ a) (κ b) = some (decide (a = b))) (hinj:∀ a b,κ a = κ b → a = b) (a:α):∀ (es:List MapEntry) (i:Nat),(∀ e ∈ es,∃ b,e.key = κ b) →
  (∃ j e,es[j]? = some e ∧ e.key = κ a ∧ findNow d (κ a) es i = some (some (i + j,e.val))) ∨ ((∀ e ∈ es,e.key ≠ κ a) ∧ findNow d (κ a) es i = some none)
 | [],i,_ => .inr ⟨fun e h => (by cases h),rfl⟩
 | e :: es,i,h => by
  obtain ⟨b,hb⟩:=h e (by simp)
  by_cases hab:a = b
  ·subst hab
   exact .inl ⟨0,e,rfl,hb,by simp only [findNow,hb,hs,decide_true]; rfl⟩
  ·have hne:e.key ≠ κ a:=fun h => hab (hinj _ _ (by rw [← h,hb]))
   have e1:findNow d (κ a) (e :: es) i = findNow d (κ a) es (i + 1):=by simp only [findNow,hb,hs,hab,decide_false]
   rw [e1]
   rcases findNow_ok hs hinj a es (i + 1) (fun x hx => h x (by simp [hx])) with ⟨j,x,h1,h2,h3⟩ | ⟨h1,h2⟩
   ·exact .inl ⟨j + 1,x,by simpa using h1,h2,by rw [h3,show i + 1 + j = i + (j + 1) by omega]⟩
   ·refine .inr ⟨fun x hx => ?_,h2⟩
    rcases List.mem_cons.1 hx with rfl | hx
    ·exact hne
    ·exact h1 x hx
/-- The entries of a map that holds m. -/
structure Ent (κ:α → Value) (m:α → Option Value) (E:Array MapEntry) (clock:Nat):Prop where
 keys:∀ e ∈ E.toList,∃ a,e.key = κ a
 apart:E.toList.Pairwise fun x y => x.key ≠ y.key
 stamps:(E.toList.map (·.born)).Nodup
 old:∀ e ∈ E.toList,e.born < clock
 has:∀ a v,m a = some v ↔ ∃ e ∈ E.toList,e.key = κ a ∧ e.val = v
/-- Block r is a map that holds m. -/
def Mp (w:World) (r:Nat) (κ:α → Value) (m:α → Option Value):Prop:=∃ E clock,w.heap[r]? = some (.map E clock) ∧ Ent κ m E clock
theorem Mp.kp {S:Nat → Prop} {w w':World} {r:Nat} {m:α → Option Value} (h:Mp w r κ m) (k:Kp S w w') (hn:¬ S r):Mp w' r κ m:=by
 obtain ⟨E,c,h1,h2⟩:=h
 exact ⟨E,c,k.heap h1 hn,h2⟩
theorem Mp.lt {w:World} {r:Nat} {m:α → Option Value} (h:Mp w r κ m):r < w.heap.size:=by
 obtain ⟨E,c,h1,h2⟩:=h
 exact lt_of_heap h1
theorem Mp.new (w:World):Mp (w.alloc (.map #[] 0)) w.heap.size κ (fun _ => none) :=
 ⟨#[],0,heap_alloc_new _ _,⟨fun _ h => (by cases h),List.Pairwise.nil,List.nodup_nil,fun _ h => (by cases h),fun a v => by simp⟩⟩
theorem findKey_ok (K:KeyS P kt κ) {m:α → Option Value} {E:Array MapEntry} {clock:Nat} (h:Ent κ m E clock) (a:α) (w:World) :
  (∃ j e,E[j]? = some e ∧ e.key = κ a ∧ m a = some e.val ∧ (findKey kt (κ a) E.toList).run P w = .ok (some (j,e.val)) w) ∨ ((∀ e ∈ E.toList,e.key ≠ κ a) ∧ m a = none ∧ (findKey kt (κ a) E.toList).run P w = .ok none w):=by
 obtain ⟨d,hd,hs⟩:=K.desc
 rcases findNow_ok hs K.inj a E.toList 0 h.keys with ⟨j,e,h1,h2,h3⟩ | ⟨h1,h2⟩
 ·refine .inl ⟨j,e,by simpa using h1,h2,(h.has a e.val).2 ⟨e,List.mem_of_getElem? h1,h2,rfl⟩,?_⟩
  rw [Nat.zero_add] at h3
  simp [findKey,run_underlying hd,h3]
 ·refine .inr ⟨h1,?_,by simp [findKey,run_underlying hd,h2]⟩
  cases hm:m a with
  | none => rfl
  | some v =>
   obtain ⟨e,he,hk,_⟩:=(h.has a v).1 hm
   exact absurd hk (h1 e he)
theorem lookup_mp (K:KeyS P kt κ) {mt et:TypeId} (ht:P.underlying mt = some (.map kt et)) {z:Value} {w:World} (hz:(zeroValue et).run P w = .ok z w) {r:Nat} {m:α → Option Value} (h:Mp w r κ m) (a:α) (c:Bool) :
  (Instr.lookup mt (.map (some r)) (κ a) c).run P w = .ok (if c then .tuple #[(m a).getD z,.bool (m a).isSome] else (m a).getD z) w:=by
 obtain ⟨E,clock,hb,hE⟩:=h
 rcases findKey_ok K hE a w with ⟨j,e,_,_,hm,hf⟩ | ⟨_,hm,hf⟩
 ·simp [Instr.lookup,run_underlying ht,getObj,Sem.run,hb,K.check,hf,hm]
 ·simp [Instr.lookup,run_underlying ht,getObj,Sem.run,hb,K.check,hf,hm,hz]
theorem run_setObj_map {w:World} {r:Nat} {E:Array MapEntry} {c:Nat} (hr:w.heap[r]? = some (.map E c)) (o':Obj):(setObj r o').run P w = .ok () (ChangeMaps.setBlock w r o'):=by
 simp [setObj,Sem.run,hr,ChangeMaps.setBlock]
theorem setBlock_kp (w:World) (r:Nat) (o:Obj):Kp (At r) w (ChangeMaps.setBlock w r o):=⟨rfl,rfl,rfl,by simp [ChangeMaps.setBlock],fun i hi hn => by
 simp only [ChangeMaps.setBlock,Array.getElem?_setIfInBounds]
 rw [if_neg (fun e => hn e.symm)]⟩
theorem setBlock_heap {w:World} {r:Nat} (h:r < w.heap.size) (o:Obj):(ChangeMaps.setBlock w r o).heap[r]? = some o:=by
 simp [ChangeMaps.setBlock,h]
/-- The map with one more. -/
def put (m:α → Option Value) (a:α) (v:Value):α → Option Value:=fun b => if b = a then some v else m b
/-- The map without one. -/
def cutM (m:α → Option Value) (a:α):α → Option Value:=fun b => if b = a then none else m b
theorem gm_self {β:Type} (f:β → β) (L:List β) (j:Nat):(L.modify j f)[j]? = L[j]?.map f:=by
 rw [List.getElem?_modify]; simp
theorem gm_ne {β:Type} (f:β → β) (L:List β) {i j:Nat} (h:j ≠ i):(L.modify j f)[i]? = L[i]?:=by
 rw [List.getElem?_modify]; simp [h]
theorem modify_map {β γ:Type} (g:β → γ) (f:β → β) (L:List β) (j:Nat) (h:∀ x,L[j]? = some x → g (f x) = g x):(L.modify j f).map g = L.map g:=by
 apply List.ext_getElem?
 intro i
 rw [List.getElem?_map,List.getElem?_map]
 by_cases hij:j = i
 ·subst hij
  rw [gm_self]
  cases hL:L[j]? with
  | none => rfl
  | some x => simp [h x hL]
 ·rw [gm_ne f L hij]
theorem key_inj {L:List MapEntry} (h:L.Pairwise fun x y => x.key ≠ y.key) {i j:Nat} {x y:MapEntry} (hx:L[i]? = some x) (hy:L[j]? = some y) (hk:x.key = y.key):i = j:=by
 obtain ⟨hi,rfl⟩:=List.getElem?_eq_some_iff.1 hx
 obtain ⟨hj,rfl⟩:=List.getElem?_eq_some_iff.1 hy
 rcases Nat.lt_trichotomy i j with hl | hl | hl
 ·exact absurd hk (List.pairwise_iff_getElem.1 h i j hi hj hl)
 ·exact hl
 ·exact absurd hk.symm (List.pairwise_iff_getElem.1 h j i hj hi hl)
theorem Ent.put_in (K:KeyS P kt κ) {m:α → Option Value} {E:Array MapEntry} {clock j:Nat} {e:MapEntry} {a:α} (h:Ent κ m E clock) (hj:E[j]? = some e) (hk:e.key = κ a) (v:Value) :
  Ent κ (put m a v) (E.modify j fun e => { e with key:=κ a,val:=v }) clock:=by
 have hj':E.toList[j]? = some e:=by simpa using hj
 have hkeys:=modify_map (·.key) (fun e:MapEntry => { e with key:=κ a,val:=v }) E.toList j (fun x hx => by rw [hj'] at hx; cases hx; exact hk.symm)
 have hborn:=modify_map (·.born) (fun e:MapEntry => { e with key:=κ a,val:=v }) E.toList j (fun x hx => rfl)
 have hmem:∀ x,x ∈ (E.modify j fun e => { e with key:=κ a,val:=v }).toList ↔ (x ∈ E.toList ∧ x.key ≠ κ a) ∨ x = { e with key:=κ a,val:=v }:=by
  intro x
  rw [Array.toList_modify]
  constructor
  ·intro hx
   obtain ⟨i,hi⟩:=List.getElem?_of_mem hx
   by_cases hij:j = i
   ·subst hij
    rw [gm_self,hj'] at hi
    simp at hi
    exact .inr hi.symm
   ·rw [gm_ne _ _ hij] at hi
    exact .inl ⟨List.mem_of_getElem? hi,fun hc => hij (key_inj h.apart hj' hi (by rw [hk,hc]))⟩
  ·rintro (⟨hx,hne⟩ | rfl)
   ·obtain ⟨i,hi⟩:=List.getElem?_of_mem hx
    refine List.mem_of_getElem? (i:=i) ?_
    rw [gm_ne _ _ (fun hij => by subst hij; rw [hj'] at hi; cases hi; exact hne hk),hi]
   ·refine List.mem_of_getElem? (i:=j) ?_
    rw [gm_self,hj']
    rfl
 refine ⟨fun x hx => ?_,?_,?_,fun x hx => ?_,fun b u => ?_⟩
 ·rcases (hmem x).1 hx with ⟨hx,_⟩ | rfl
  ·exact h.keys x hx
  ·exact ⟨a,rfl⟩
 ·have:=h.apart
  rw [← List.pairwise_map (f:=fun x:MapEntry => x.key) (R:=fun x y => x ≠ y)] at this ⊢
  rw [Array.toList_modify,hkeys]
  exact this
 ·rw [Array.toList_modify,hborn]
  exact h.stamps
 ·rcases (hmem x).1 hx with ⟨hx,_⟩ | rfl
  ·exact h.old x hx
  ·exact h.old e (List.mem_of_getElem? hj')
 ·unfold put
  constructor
  ·intro hb
   split at hb
   ·rename_i hba
    subst hba
    cases hb
    exact ⟨_,(hmem _).2 (.inr rfl),rfl,rfl⟩
   ·rename_i hba
    obtain ⟨x,hx,h1,h2⟩:=(h.has b u).1 hb
    exact ⟨x,(hmem x).2 (.inl ⟨hx,fun hc => hba (K.inj _ _ (by rw [← h1,hc]))⟩),h1,h2⟩
  ·rintro ⟨x,hx,h1,h2⟩
   rcases (hmem x).1 hx with ⟨hx,hne⟩ | rfl
   ·rw [if_neg (fun hba => hne (by rw [h1,hba]))]
    exact (h.has b u).2 ⟨x,hx,h1,h2⟩
   ·have:b = a:=K.inj _ _ h1.symm
    rw [if_pos this,← h2]
theorem Ent.put_new (K:KeyS P kt κ) {m:α → Option Value} {E:Array MapEntry} {clock:Nat} {a:α} (h:Ent κ m E clock) (hno:∀ e ∈ E.toList,e.key ≠ κ a) (v:Value) :
  Ent κ (put m a v) (E.push { key:=κ a,val:=v,born:=clock }) (clock + 1):=by
 have hmem:∀ x,x ∈ (E.push { key:=κ a,val:=v,born:=clock }).toList ↔ x ∈ E.toList ∨ x = { key:=κ a,val:=v,born:=clock }:=by
  intro x; simp
 refine ⟨fun x hx => ?_,?_,?_,fun x hx => ?_,fun b u => ?_⟩
 ·rcases (hmem x).1 hx with hx | rfl
  ·exact h.keys x hx
  ·exact ⟨a,rfl⟩
 ·rw [Array.toList_push,List.pairwise_append]
  refine ⟨h.apart,List.pairwise_singleton _ _,fun x hx y hy => ?_⟩
  obtain rfl:y = _:=by simpa using hy
  exact hno x hx
 ·rw [Array.toList_push,List.map_append,List.nodup_append]
  refine ⟨h.stamps,by simp,fun x hx y hy => ?_⟩
  obtain ⟨e,he,rfl⟩:=List.mem_map.1 hx
  have:y = clock:=by simpa using hy
  have:=h.old e he
  omega
 ·rcases (hmem x).1 hx with hx | rfl
  ·have:=h.old x hx; omega
  ·simp
 ·unfold put
  constructor
  ·intro hb
   split at hb
   ·rename_i hba
    subst hba
    cases hb
    exact ⟨_,(hmem _).2 (.inr rfl),rfl,rfl⟩
   ·obtain ⟨x,hx,h1,h2⟩:=(h.has b u).1 hb
    exact ⟨x,(hmem x).2 (.inl hx),h1,h2⟩
  ·rintro ⟨x,hx,h1,h2⟩
   rcases (hmem x).1 hx with hx | rfl
   ·rw [if_neg (fun hba => hno x hx (by rw [h1,hba]))]
    exact (h.has b u).2 ⟨x,hx,h1,h2⟩
   ·have:b = a:=K.inj _ _ h1.symm
    rw [if_pos this,← h2]
theorem Ent.mem_erase {m:α → Option Value} {E:Array MapEntry} {clock j:Nat} {e:MapEntry} {a:α} (h:Ent κ m E clock) (hj:E[j]? = some e) (hk:e.key = κ a) (x:MapEntry) :
  x ∈ (E.eraseIdxIfInBounds j).toList ↔ x ∈ E.toList ∧ x.key ≠ κ a:=by
 have hj':E.toList[j]? = some e:=by simpa using hj
 have hjl:j < E.size:=(Array.getElem?_eq_some_iff.1 hj).1
 have e1:(E.eraseIdxIfInBounds j).toList = E.toList.eraseIdx j:=by
  unfold Array.eraseIdxIfInBounds
  rw [dif_pos hjl,Array.toList_eraseIdx]
 rw [e1,List.mem_eraseIdx_iff_getElem?]
 constructor
 ·rintro ⟨i,hij,hi⟩
  exact ⟨List.mem_of_getElem? hi,fun hc => hij (key_inj h.apart hi hj' (by rw [hk,hc]))⟩
 ·rintro ⟨hx,hne⟩
  obtain ⟨i,hi⟩:=List.getElem?_of_mem hx
  exact ⟨i,fun hij => by subst hij; rw [hj'] at hi; cases hi; exact hne hk,hi⟩
theorem Ent.cut (K:KeyS P kt κ) {m:α → Option Value} {E:Array MapEntry} {clock j:Nat} {e:MapEntry} {a:α} (h:Ent κ m E clock) (hj:E[j]? = some e) (hk:e.key = κ a):Ent κ (cutM m a) (E.eraseIdxIfInBounds j) clock:=by
 have hmem:=h.mem_erase hj hk
 have hjl:j < E.size:=(Array.getElem?_eq_some_iff.1 hj).1
 have e1:(E.eraseIdxIfInBounds j).toList = E.toList.eraseIdx j:=by
  unfold Array.eraseIdxIfInBounds
  rw [dif_pos hjl,Array.toList_eraseIdx]
 refine ⟨fun x hx => h.keys x ((hmem x).1 hx).1,?_,?_,fun x hx => h.old x ((hmem x).1 hx).1,fun b u => ?_⟩
 ·rw [e1]; exact h.apart.sublist (List.eraseIdx_sublist _ _)
 ·rw [e1]; exact h.stamps.sublist ((List.eraseIdx_sublist _ _).map _)
 ·unfold cutM
  constructor
  ·intro hb
   split at hb
   ·cases hb
   ·rename_i hba
    obtain ⟨x,hx,h1,h2⟩:=(h.has b u).1 hb
    exact ⟨x,(hmem x).2 ⟨hx,fun hc => hba (K.inj _ _ (by rw [← h1,hc]))⟩,h1,h2⟩
  ·rintro ⟨x,hx,h1,h2⟩
   obtain ⟨hx,hne⟩:=(hmem x).1 hx
   rw [if_neg (fun hba => hne (by rw [h1,hba]))]
   exact (h.has b u).2 ⟨x,hx,h1,h2⟩
theorem cutM_none {m:α → Option Value} {a:α} (h:m a = none):cutM m a = m:=by
 funext b
 unfold cutM
 split
 ·rename_i e; rw [e,h]
 ·rfl
theorem update_mp (K:KeyS P kt κ) {mt et:TypeId} (ht:P.underlying mt = some (.map kt et)) {w:World} {r:Nat} {m:α → Option Value} (h:Mp w r κ m) (a:α) (v:Value) :
  ∃ w',(Instr.mapUpdate mt (.map (some r)) (κ a) v).run P w = .ok () w' ∧ Mp w' r κ (put m a v) ∧ Kp (At r) w w':=by
 obtain ⟨E,clock,hb,hE⟩:=h
 have hlt:=lt_of_heap hb
 rcases findKey_ok K hE a w with ⟨j,e,hj,hk,hm,hf⟩ | ⟨hno,hm,hf⟩
 ·refine ⟨ChangeMaps.setBlock w r (.map (E.modify j fun e => { e with key:=κ a,val:=v }) clock),?_,⟨_,_,setBlock_heap hlt _,?_⟩,setBlock_kp _ _ _⟩
  ·simp [Instr.mapUpdate,run_underlying ht,getObj,Sem.run,hb,K.check,hf,hj,hk,keyThatStays,K.bits,run_setObj_map hb]
  ·exact hE.put_in K hj hk v
 ·refine ⟨ChangeMaps.setBlock w r (.map (E.push { key:=κ a,val:=v,born:=clock }) (clock + 1)),?_,⟨_,_,setBlock_heap hlt _,?_⟩,setBlock_kp _ _ _⟩
  ·simp [Instr.mapUpdate,run_underlying ht,getObj,Sem.run,hb,K.check,hf,run_setObj_map hb]
  ·exact hE.put_new K hno v
theorem delete_mp (K:KeyS P kt κ) {mt et ty:TypeId} (ht:P.underlying mt = some (.map kt et)) {w:World} {r:Nat} {m:α → Option Value} (h:Mp w r κ m) (a:α) :
  ∃ w',(Builtin.delete_ #[mt,kt] ty #[.map (some r),κ a]).run P w = .ok (.tuple #[]) w' ∧ Mp w' r κ (cutM m a) ∧ Kp (At r) w w':=by
 obtain ⟨E,clock,hb,hE⟩:=h
 have hlt:=lt_of_heap hb
 rcases findKey_ok K hE a w with ⟨j,e,hj,hk,hm,hf⟩ | ⟨hno,hm,hf⟩
 ·refine ⟨ChangeMaps.setBlock w r (.map (E.eraseIdxIfInBounds j) clock),?_,⟨_,_,setBlock_heap hlt _,hE.cut K hj hk⟩,setBlock_kp _ _ _⟩
  simp [Builtin.delete_,run_underlying ht,getObj,Sem.run,hb,K.check,hf,run_setObj_map hb]
 ·refine ⟨ChangeMaps.setBlock w r (.map E clock),?_,⟨_,_,setBlock_heap hlt _,?_⟩,setBlock_kp _ _ _⟩
  ·simp [Builtin.delete_,run_underlying ht,getObj,Sem.run,hb,K.check,hf,run_setObj_map hb]
  ·rw [cutM_none hm]; exact hE
/-! ### A range over a map, in which nothing is laid anew -/
/-- Block it is a range over the map r, that holds m; left: the keys that are still to come. -/
def Rg (w:World) (it r:Nat) (κ:α → Value) (m:α → Option Value) (left:α → Prop):Prop :=
 ∃ E clock since seen c0,w.heap[it]? = some (.mapIter (some r) since seen c0) ∧ w.heap[r]? = some (.map E clock) ∧ Ent κ m E clock ∧ (∀ e ∈ E.toList,e.born < since) ∧ since ≤ c0 ∧ since ≤ clock ∧ ∀ e ∈ E.toList,∀ a,e.key = κ a → (left a ↔ e.born ∉ seen)
def rgN (w:World) (it r:Nat):Nat:=match w.heap[it]?,w.heap[r]? with
 | some (.mapIter _ _ seen _),some (.map E _) => (E.toList.filter fun e => !seen.contains e.born).length
 | _,_ => 0
theorem Rg.mp {w:World} {it r:Nat} {m:α → Option Value} {left:α → Prop} (h:Rg w it r κ m left):Mp w r κ m:=by
 obtain ⟨E,clock,_,_,_,_,h1,h2,_⟩:=h
 exact ⟨E,clock,h1,h2⟩
theorem Rg.lt {w:World} {it r:Nat} {m:α → Option Value} {left:α → Prop} (h:Rg w it r κ m left):it < w.heap.size:=by
 obtain ⟨E,clock,_,_,_,h0,_⟩:=h
 exact lt_of_heap h0
theorem Rg.ne {w:World} {it r:Nat} {m:α → Option Value} {left:α → Prop} (h:Rg w it r κ m left):it ≠ r:=by
 obtain ⟨E,clock,_,_,_,h0,h1,_⟩:=h
 rintro rfl
 rw [h0] at h1; cases h1
theorem Rg.kp {S:Nat → Prop} {w w':World} {it r:Nat} {m:α → Option Value} {left:α → Prop} (h:Rg w it r κ m left) (k:Kp S w w') (h1:¬ S it) (h2:¬ S r):Rg w' it r κ m left ∧ rgN w' it r = rgN w it r:=by
 obtain ⟨E,clock,since,seen,c0,g1,g2,g3⟩:=h
 refine ⟨⟨E,clock,since,seen,c0,k.heap g1 h1,k.heap g2 h2,g3⟩,?_⟩
 unfold rgN
 rw [k.heap g1 h1,k.heap g2 h2,g1,g2]
theorem range_mp {mt et:TypeId} (ht:P.underlying mt = some (.map kt et)) {w:World} {r:Nat} {m:α → Option Value} (h:Mp w r κ m) :
  ∃ w',(Instr.range mt (.map (some r))).run P w = .ok (.pointer (some ⟨w.heap.size,0,none⟩)) w' ∧ Rg w' w.heap.size r κ m (fun _ => True) ∧ Nw w w':=by
 obtain ⟨E,clock,hb,hE⟩:=h
 refine ⟨w.alloc (.mapIter (some r) clock #[] clock),?_,⟨E,clock,clock,#[],clock,heap_alloc_new _ _,?_,hE,hE.old,Nat.le_refl _,Nat.le_refl _,fun e he a ha => by simp⟩,(Kp.refl _ _).alloc _⟩
 ·simp [Instr.range,run_underlying ht,getObj,Sem.run,hb,newObj]
 ·rw [heap_alloc_lt _ _ _ (lt_of_heap hb)]; exact hb
theorem born_inj {L:List MapEntry} (h:(L.map (·.born)).Nodup) {x y:MapEntry} (hx:x ∈ L) (hy:y ∈ L) (hb:x.born = y.born):x = y:=by
 obtain ⟨i,hi⟩:=List.getElem?_of_mem hx
 obtain ⟨j,hj⟩:=List.getElem?_of_mem hy
 have h:L.Pairwise fun x y => x.born ≠ y.born:=List.pairwise_map.1 h
 obtain ⟨hi',rfl⟩:=List.getElem?_eq_some_iff.1 hi
 obtain ⟨hj',rfl⟩:=List.getElem?_eq_some_iff.1 hj
 rcases Nat.lt_trichotomy i j with hl | hl | hl
 ·exact absurd hb (List.pairwise_iff_getElem.1 h i j hi' hj' hl)
 ·subst hl; rfl
 ·exact absurd hb.symm (List.pairwise_iff_getElem.1 h j i hj' hi' hl)
theorem filter_le {β:Type} (p q:β → Bool):∀ (L:List β),(∀ x,p x = true → q x = true) → (L.filter p).length ≤ (L.filter q).length
 | [],_ => Nat.le_refl _
 | x :: L,h => by
  have:=filter_le p q L h
  rw [List.filter_cons,List.filter_cons]
  by_cases hp:p x = true
  ·rw [if_pos hp,if_pos (h x hp)]; simpa using this
  ·rw [if_neg hp]; split <;> simp <;> omega
theorem filter_lt {β:Type} (p q:β → Bool):∀ (L:List β) {e:β},(∀ x,p x = true → q x = true) → e ∈ L → q e = true → p e = false → (L.filter p).length < (L.filter q).length
 | [],e,_,he,_,_ => by cases he
 | x :: L,e,h,he,hq,hp => by
  rw [List.filter_cons,List.filter_cons]
  rcases List.mem_cons.1 he with rfl | he
  ·have:=filter_le p q L h
   rw [if_neg (by rw [hp]; decide),if_pos hq]; simp; omega
  ·have:=filter_lt p q L h he hq hp
   by_cases hpx:p x = true
   ·rw [if_pos hpx,if_pos (h x hpx)]; simpa using this
   ·rw [if_neg hpx]; split <;> simp <;> omega
theorem next_rg {w:World} {it r:Nat} {m:α → Option Value} {left:α → Prop} (hκ:∀ a b,κ a = κ b → a = b) (h:Rg w it r κ m left) (ty:TypeId) :
  ((∀ a v,m a = some v → ¬ left a) ∧ (Instr.next (.pointer (some ⟨it,0,none⟩)) false ty).run P w = .ok (.tuple #[.bool false]) w) ∨
  ∃ a v w',m a = some v ∧ left a ∧ (Instr.next (.pointer (some ⟨it,0,none⟩)) false ty).run P w = .ok (.tuple #[.bool true,κ a,v]) w' ∧ Rg w' it r κ m (fun b => left b ∧ b ≠ a) ∧ Kp (At it) w w' ∧ rgN w' it r < rgN w it r ∧
   (Instr.entry (.pointer (some ⟨it,0,none⟩))).run P w' = .ok (.tuple #[κ a,v]) w':=by
 have hne:=h.ne
 have hlt:=h.lt
 obtain ⟨E,clock,since,seen,c0,hr,hb,hE,hold,hsc,hcl,hl⟩:=h
 rcases run_next_at (P:=P) w ty it r since c0 seen E clock hr hb hold hsc with ⟨h0,hrun⟩ | ⟨e,he,w1,hw1,hrun⟩
 ·refine .inl ⟨fun a v hm hla => ?_,hrun⟩
  obtain ⟨e,he,hk,_⟩:=(hE.has a v).1 hm
  have:=(hl e he a hk).1 hla
  have hmem:e ∈ leftOf E seen:=by
   unfold leftOf
   rw [Array.mem_filter]
   exact ⟨by simpa using he,by simpa using this⟩
  have:=Array.size_pos_of_mem hmem
  omega
 ·have he':e ∈ E.toList ∧ e.born ∉ seen:=by
   unfold leftOf at he
   simpa using he
  obtain ⟨a,ha⟩:=hE.keys e he'.1
  have hkp:Kp (At it) w (ChangeMaps.setBlock w1 it (.mapIter (some r) since (seen.push e.born) clock)):=by
   have:=setBlock_kp w1 it (.mapIter (some r) since (seen.push e.born) clock)
   rcases hw1 with rfl | rfl
   ·exact this
   ·exact ((Kp.refl _ w).drew).trans this fun _ _ h => h
  have hit:(ChangeMaps.setBlock w1 it (.mapIter (some r) since (seen.push e.born) clock)).heap[it]? = some (.mapIter (some r) since (seen.push e.born) clock):=setBlock_heap (by rcases hw1 with rfl | rfl <;> exact hlt) _
  have hrr:=hkp.heap hb (fun h => hne h.symm)
  refine .inr ⟨a,e.val,_,(hE.has a e.val).2 ⟨e,he'.1,ha,rfl⟩,(hl e he'.1 a ha).2 he'.2,by rw [← ha]; exact hrun,⟨E,clock,since,seen.push e.born,clock,hit,hrr,hE,hold,hcl,hcl,?_⟩,hkp,?_,?_⟩
  ·intro x hx b hb'
   rw [Array.mem_push,not_or,← hl x hx b hb']
   show left b ∧ b ≠ a ↔ _
   refine and_congr_right fun _ => not_congr ⟨fun hba => ?_,fun hxe => ?_⟩
   ·subst hba
    obtain ⟨i,hi⟩:=List.getElem?_of_mem hx
    obtain ⟨j,hj⟩:=List.getElem?_of_mem he'.1
    have:=key_inj hE.apart hi hj (by rw [ha,hb'])
    subst this
    rw [hi] at hj
    cases hj
    rfl
   ·have:=born_inj hE.stamps hx he'.1 hxe
    subst this
    exact hκ _ _ (by rw [← ha,hb'])
  ·unfold rgN
   rw [hit,hrr,hr,hb]
   refine filter_lt _ _ E.toList (fun x hx => ?_) he'.1 (by simpa using he'.2) (by simp)
   simp at hx ⊢
   exact hx.1
  ·rw [← ha]
   exact run_entry_at (P:=P) _ it r since seen E clock e hit hrr he'.1 hE.stamps
end
end Go.Vc
namespace Go.Proofs.YtellahclbhfdiaaGreatDoor
set_option linter.unusedSimpArgs false
set_option linter.unusedVariables false
set_option maxRecDepth 100000
open Go.Vc Go.RowKit
theorem flat_at (ps:List (List UInt8)) (k:Nat) (hk:k < ps.length):(ps.take (k + 1)).flatten = (ps.take k).flatten ++ ps[k]:=by
 rw [List.take_succ_eq_append_getElem hk,List.flatten_append]
 simp
theorem flat_take (ps:List (List UInt8)) (k:Nat):(ps.take k).flatten.length ≤ ps.flatten.length:=by
 have h:=congrArg (fun l => l.flatten.length) (List.take_append_drop k ps)
 simp only [List.flatten_append,List.length_append] at h
 omega
theorem bjoin_spec (ps:List (List UInt8)) (A:Option Addr) (c:Nat) (w:World) (S:Nat → Prop) (hr:Brs w A ps S) (hc:ps.length ≤ c) (hp:ps.length ≤ 140737488355328) (hl:ps.flatten.length ≤ 140737488355328) :
  Cal Tryz.prog 200 #[.slice A ps.length c,.slice none 0 0] w fun v w' => Bs w' v ps.flatten w.heap.size ∧ Nw w w':=by
 refine enter Tryz.mixed Tryz.func200 rfl (by kernel_rfl) ?_
 simp -dsimp [go_sem]
 refine cond_e (fun h0 => ?_) (fun h0 => ?_)
 ·have h0:ps = []:=List.eq_nil_of_length_eq_zero (by omega)
  subst h0
  simp -dsimp [go_sem]
  exact ⟨Gs.made w 5 1 0 #[] rfl rfl rfl (by simp [maxLen]) (Nat.le_refl _),(Kp.refl _ _).alloc _⟩
 ·simp -dsimp [go_sem]
  obtain ⟨vs,hvl,hrd,hoA,hi⟩:=id hr
  refine cond_e (fun h1 => ?_) (fun h1 => ?_)
  ·have h1:ps.length = 1:=by omega
   obtain ⟨p,rfl⟩:=List.length_eq_one_iff.1 h1
   obtain ⟨B,d,hv,hrB,hoB,hd⟩:=hi 0 (by simp)
   obtain ⟨b,o,rfl,hcell⟩:=hrd 0 _ hv
   simp at hcell hl
   simp -dsimp [go_sem,hcell]
   refine bs_app (m:=p) (l:=[]) (B:=w.heap.size) (Bs.nil _ _) hrB (by simpa using hl) (Nat.le_refl _) ?_
   intro v1 w1 hB1 hk1
   simp -dsimp [go_sem]
   exact ⟨by simpa using hB1,Nw.fr (Kp.refl _ _) hk1 (Nat.le_refl _)⟩
  ·have hge:2 ≤ ps.length:=by omega
   simp -dsimp [go_sem]
   refine loop [5,7,44,45,46,47,48,49,50,51,52,53,54,55,56,57,58] (by kernel_rfl) (fun f w' => Box2 (fun a b w' => ∃ k:Nat,k ≤ ps.length ∧ b = i64 k ∧ a = i64 (ps.take k).flatten.length ∧ w' = w) (f 5) (f 44) w')
    (fun f _ => ps.length - (intOf (f 44)).toNat) ⟨0,Nat.zero_le _,rfl,rfl,rfl⟩ ?_
   rintro f w' ⟨k,hk,f44,f5,rfl⟩
   have hft:=flat_take ps k
   obtain ⟨x,hx⟩:∃ x,x = (ps.take k).flatten.length:=⟨_,rfl⟩
   rw [← hx] at f5 hft
   simp -dsimp [go_sem,f44]
   refine cond_d (fun hlt => ?_) (fun hlt => ?_)
   ·have hlt:k < ps.length:=by omega
    obtain ⟨B,d,hv,hrB,hoB,hd⟩:=hi k hlt
    obtain ⟨b,o,rfl,hcell⟩:=hrd k _ hv
    have hat:=congrArg List.length (flat_at ps k hlt)
    rw [List.length_append,← hx] at hat
    have hft1:=flat_take ps (k + 1)
    have hs1:IntKind.i64.wrap (9223372036854775807 - (x:Int)) = ((9223372036854775807 - x:Nat):Int):=by rw [w64 (by omega) (by omega)]; omega
    obtain ⟨y,hy⟩:∃ y,y = 9223372036854775807 - x:=⟨_,rfl⟩
    rw [← hy] at hs1
    simp -dsimp [go_sem,f5,f44,hlt,hcell,hs1]
    refine cond_d (fun hbig => ?_) (fun hbig => ?_)
    ·omega
    ·have h2:IntKind.i64.wrap ((x:Int) + (ps[k].length:Int)) = ((x + ps[k].length:Nat):Int):=w64 (by omega) (by omega)
     have hk1:IntKind.i64.wrap ((k:Int) + 1) = ((k + 1:Nat):Int):=w64 (by omega) (by omega)
     obtain ⟨k1,hk1'⟩:∃ k1,k1 = k + 1:=⟨_,rfl⟩
     obtain ⟨z,hz⟩:∃ z,z = x + ps[k].length:=⟨_,rfl⟩
     rw [← hz] at h2 hat
     rw [← hk1'] at hk1 hat
     simp -dsimp [go_sem,f5,f44,h2,hk1]
     exact ⟨⟨k1,by omega,rfl,by rw [hat],rfl⟩,by simp [intOf]; omega⟩
   ·obtain rfl:k = ps.length:=by omega
    rw [List.take_length] at hx
    simp -dsimp [go_sem,f5]
    refine nz_ok (e:=5) (by kernel_rfl) x (by omega) ?_
    intro cs hcs1 hcs2
    obtain ⟨B0,d0,hv0,hrB0,hoB0,hd0⟩:=hi 0 (by omega)
    obtain ⟨b,o,rfl,hcell0⟩:=hrd 0 _ hv0
    rw [Nat.add_zero] at hcell0
    have k0:Nw w' (w'.drew.drew.alloc (.cells cs 5)):=(Kp.refl _ _).drew.drew.alloc _
    have hcell0':=k0.cell_some hcell0 fun h => h
    have hb0:Blk (w'.drew.drew.alloc (.cells cs 5)) w'.heap.size 5 cs:=Blk.new w'.drew.drew _ _
    have hn0:0 < ps.length:=by omega
    have hat0:=flat_at ps 0 (by omega)
    rw [List.take_zero,List.flatten_nil,List.nil_append] at hat0
    have hft0:=flat_take ps 1
    rw [hat0] at hft0
    generalize hw1:w'.drew.drew.alloc (.cells cs 5) = w1 at *
    obtain ⟨g,hg⟩:∃ g,g = w'.heap.size:=⟨_,rfl⟩
    rw [← hg] at hb0 ⊢
    simp -dsimp [go_sem,hcs1,f5,hcell0',hn0]
    refine copy_at (elem:=5) (ys:=ps[0].map u8) (by kernel_rfl) (by kernel_rfl) (fun _ => rfl) hb0 (hrB0.nw k0) (by simp) (by omega) (by omega) (one_u8 _) ?_
    intro w2 cur2 hb2 hs2 ht2 hk2
    have k2:Nw w' w2:=Nw.at_ k0 hk2 (Nf.at_ (by omega))
    rw [List.take_zero,List.nil_append,Nat.zero_add,← hat0] at ht2
    have hlen1:ps[0].length = (ps.take 1).flatten.length:=by rw [← hat0]
    rw [hlen1]
    have ht2:cur2.toList.take (ps.take 1).flatten.length = (ps.take 1).flatten.map u8:=ht2
    obtain ⟨m1,hm1⟩:∃ m1,m1 = (ps.take 1).flatten.length:=⟨_,rfl⟩
    rw [← hm1]
    have hc1:¬ c = 1:=by omega
    have hc2:(1:Int) ≤ (ps.length:Int):=by omega
    obtain ⟨q,hq⟩:∃ q,ps.length - 1 = q:=⟨_,rfl⟩
    simp -dsimp [go_sem,hc1,hn0,hc2,hq]
    refine loop [9,11,72,73,74,75,76,77,78,79,80,81,82,83,84,85,86,87,88,89,90] (by kernel_rfl)
     (fun f w3 => Box2 (fun a b' w3 => ∃ k cur,k + 1 ≤ ps.length ∧ b' = i64 k ∧ a = i64 (ps.take (k + 1)).flatten.length ∧ Blk w3 g 5 cur ∧ cur.size = cs.size ∧ cur.toList.take (ps.take (k + 1)).flatten.length = (ps.take (k + 1)).flatten.map u8 ∧ Nw w' w3) (f 9) (f 72) w3)
     (fun f _ => ps.length - (intOf (f 72)).toNat) ⟨0,cur2,by omega,rfl,by rw [← hm1]; rfl,hb2,hs2,ht2,k2⟩ ?_
    rintro f3 w3 ⟨k,cur,hk,f72,f9,hb,hs,ht,hK⟩
    have hft3:=flat_take ps (k + 1)
    obtain ⟨m,hm⟩:∃ m,m = (ps.take (k + 1)).flatten.length:=⟨_,rfl⟩
    rw [← hm] at f9 ht hft3
    simp -dsimp [go_sem,f72]
    refine cond_d (fun hlt => ?_) (fun hlt => ?_)
    ·have hlt:k < q:=by omega
     obtain ⟨B,d,hv,hrB,hoB,hd⟩:=hi (k + 1) (by omega)
     obtain ⟨b1,o1,e,hcell⟩:=hrd (k + 1) _ hv
     cases e
     have hcell':=hK.cell_some hcell fun h => h
     rw [show o + (k + 1) = o + 1 + k by omega] at hcell'
     have hat:=flat_at ps (k + 1) (by omega)
     have hal:=congrArg List.length hat
     rw [List.length_append,← hm] at hal
     have hft4:=flat_take ps (k + 1 + 1)
     have hmx:m ≤ x:=by omega
     have hmx':(m:Int) ≤ (x:Int):=by omega
     simp -dsimp [go_sem,f72,f9,hlt,hcell',hmx,hmx']
     refine copy_none (elem:=5) (by kernel_rfl) (by kernel_rfl) ?_
     have hm0:IntKind.i64.wrap (m:Int) = m:=w64 (by omega) (by omega)
     simp -dsimp [go_sem,hmx,hmx',hm0]
     refine copy_at (elem:=5) (ys:=ps[k + 1].map u8) (g:=g) (o:=m) (by kernel_rfl) (by kernel_rfl) (fun h => by rw [if_neg (by omega)]) hb ((hrB.nw hK)) (by simp) (by omega) (by omega) (one_u8 _) ?_
     intro w4 cur4 hb4 hs4 ht4 hk4
     have h2:IntKind.i64.wrap ((m:Int) + (ps[k + 1].length:Int)) = ((m + ps[k + 1].length:Nat):Int):=w64 (by omega) (by omega)
     have hk1:IntKind.i64.wrap ((k:Int) + 1) = ((k + 1:Nat):Int):=w64 (by omega) (by omega)
     obtain ⟨z,hz⟩:∃ z,z = m + ps[k + 1].length:=⟨_,rfl⟩
     obtain ⟨k1,hk1'⟩:∃ k1,k1 = k + 1:=⟨_,rfl⟩
     rw [← hz] at h2 hal ht4
     rw [← hk1'] at hk1
     simp -dsimp [go_sem,f72,h2,hk1]
     subst hk1'
     refine ⟨⟨k + 1,cur4,by omega,rfl,by rw [hal],hb4,hs4.trans hs,?_,Nw.at_ hK hk4 (Nf.at_ (by omega))⟩,by simp [intOf]; omega⟩
     rw [hal,ht4,ht,hat,List.map_append]
    ·obtain rfl:k = q:=by omega
     simp -dsimp [go_sem]
     have hall:ps.take (k + 1) = ps:=List.take_of_length_le (by omega)
     rw [hall] at ht hm
     refine ⟨⟨_,x,by rw [hx],⟨by rw [List.length_map,Nat.mul_one],by omega,by simp only [maxLen]; omega,.inr ⟨g,cur,rfl,hb,by omega,?_⟩⟩,fun a ha => by cases ha; exact Nat.le_refl _⟩,hK⟩
     rw [← hm,Nat.mul_one,ht]
theorem join_spec (ps:List (List UInt8)) (A:Option Addr) (c:Nat) (w:World) (S:Nat → Prop) (hr:Brs w A ps S) (hc:ps.length ≤ c) (hp:ps.length ≤ 140737488355328) (hl:ps.flatten.length ≤ 140737488355328) :
  Cal Tryz.prog 152 #[.slice A ps.length c] w fun v w' => Bs w' v ps.flatten w.heap.size ∧ Nw w w':=by
 refine enter Tryz.mixed Tryz.func152 rfl (by kernel_rfl) ?_
 simp -dsimp [go_sem]
 refine call (bjoin_spec ps A c w S hr hc hp hl) ?_
 rintro v w1 ⟨hB,hk⟩
 simp -dsimp [go_sem]
 exact ⟨hB,hk⟩
end Go.Proofs.YtellahclbhfdiaaGreatDoor
