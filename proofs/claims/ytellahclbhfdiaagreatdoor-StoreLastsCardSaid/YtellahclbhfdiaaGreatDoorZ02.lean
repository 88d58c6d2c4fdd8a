/-
  Memory: what a call leaves as it was; rows that are read; rows that are owned; append. By the session itself.
-/
import Derived.Test.YtellahclbhfdiaaGreatDoorZ01
import Derived.Laws.AppendOwn
import Derived.Laws.Rows
import Derived.Laws.IdiomCopy
import Derived.Laws.IdiomStrings
import Derived.Laws.CopyRow
namespace Go.Vc
set_option linter.unusedSimpArgs false
set_option linter.unusedVariables false
abbrev u8 (b:UInt8):Value:=.int .u8 b.toNat
abbrev i64 (n:Int):Value:=.int .i64 n
theorem w64 {x:Int} (h:-9223372036854775808 ≤ x) (h2:x ≤ 9223372036854775807):IntKind.i64.wrap x = x:=by
 rw [IntKind.wrap_i64]; omega
/-- Behind w' all is as in w, but for the blocks of S and new ones. -/
structure Kp (S:Nat → Prop) (w w':World):Prop where
 os:w'.os = w.os
 tape:w'.tape = w.tape
 output:w'.output = w.output
 size:w.heap.size ≤ w'.heap.size
 block:∀ k,k < w.heap.size → ¬ S k → w'.heap[k]? = w.heap[k]?
/-- The one block. -/
abbrev At (g:Nat):Nat → Prop:=fun k => k = g
/-- Nothing that was there has turned. -/
abbrev Nw (w w':World):Prop:=Kp (fun _ => False) w w'
section
variable {S T:Nat → Prop} {a b w w':World}
theorem Kp.refl (S:Nat → Prop) (w:World):Kp S w w:=⟨rfl,rfl,rfl,Nat.le_refl _,fun _ _ _ => rfl⟩
theorem Kp.trans {c:World} (h:Kp S a b) (k:Kp T b c) (hT:∀ i,i < a.heap.size → T i → S i):Kp S a c :=
 ⟨k.os.trans h.os,k.tape.trans h.tape,k.output.trans h.output,Nat.le_trans h.size k.size,fun i hi hn => (k.block i (Nat.lt_of_lt_of_le hi h.size) (fun ht => hn (hT i hi ht))).trans (h.block i hi hn)⟩
theorem Kp.mono (h:Kp S a b) (hT:∀ i,i < a.heap.size → S i → T i):Kp T a b:=⟨h.os,h.tape,h.output,h.size,fun i hi hn => h.block i hi (fun hs => hn (hT i hi hs))⟩
theorem Kp.nw {c:World} (h:Kp S a b) (k:Nw b c):Kp S a c:=h.trans k fun _ _ h => h.elim
theorem Nw.kp (h:Nw a b) (S:Nat → Prop):Kp S a b:=h.mono fun _ _ h => h.elim
theorem Kp.drew (h:Kp S a w):Kp S a w.drew:=⟨h.os,h.tape,h.output,h.size,h.block⟩
theorem heap_alloc_lt (w:World) (o:Obj) (i:Nat) (h:i < w.heap.size):(w.alloc o).heap[i]? = w.heap[i]?:=by
 show (w.heap.push o)[i]? = _
 rw [Array.getElem?_push,if_neg (by omega)]
theorem Kp.alloc (h:Kp S a w) (o:Obj):Kp S a (w.alloc o) :=
 ⟨h.os,h.tape,h.output,Nat.le_trans h.size (by simp),fun i hi hn => (heap_alloc_lt w o i (Nat.lt_of_lt_of_le hi h.size)).trans (h.block i hi hn)⟩
theorem heap_setCell_other (w:World) (p:Addr) (v:Value) (k:Nat) (h:k ≠ p.block):(w.setCell p v).heap[k]? = w.heap[k]?:=by
 simp only [World.setCell,Array.getElem?_modify]
 rw [if_neg (fun e => h e.symm)]
theorem Kp.setCell (h:Kp S a w) (p:Addr) (v:Value) (hp:a.heap.size ≤ p.block ∨ S p.block):Kp S a (w.setCell p v) :=
 ⟨h.os,h.tape,h.output,by simpa using h.size,fun i hi hn => (heap_setCell_other w p v i (by
  rintro rfl
  rcases hp with hp | hp
  ·omega
  ·exact hn hp)).trans (h.block i hi hn)⟩
theorem Kp.setCell_at {g:Nat} (h:Kp (At g) a w) (i:Nat) (v:Value):Kp (At g) a (w.setCell ⟨g,i,none⟩ v):=h.setCell _ _ (.inr rfl)
theorem Kp.cell (h:Kp S w w') {p:Addr} (hp:p.block < w.heap.size) (hn:¬ S p.block):w'.cell? p = w.cell? p:=World.cell?_of_block (w:=w) (h.block p.block hp hn)
theorem Kp.cell_some (h:Kp S w w') {p:Addr} {v:Value} (hc:w.cell? p = some v) (hn:¬ S p.block):w'.cell? p = some v:=(h.cell (World.block_lt_of_cell? w p hc) hn).trans hc
theorem Kp.frozen (h:Kp S w w') {p:Addr} (hp:p.block < w.heap.size) (hn:¬ S p.block):w'.frozen? p = w.frozen? p:=World.frozen?_of_block (w:=w) (h.block p.block hp hn)
theorem lt_of_heap {w:World} {k:Nat} {o:Obj} (h:w.heap[k]? = some o):k < w.heap.size:=(Array.getElem?_eq_some_iff.1 h).1
theorem Kp.heap (h:Kp S w w') {k:Nat} {o:Obj} (hk:w.heap[k]? = some o) (hn:¬ S k):w'.heap[k]? = some o:=(h.block k (lt_of_heap hk) hn).trans hk
end
/-! ### Rows that are read -/
/-- The cells from A on are xs. -/
def Rd (w:World) (A:Option Addr) (xs:List Value):Prop:=∀ j u,xs[j]? = some u → ∃ b o,A = some ⟨b,o,none⟩ ∧ w.cell? ⟨b,o + j,none⟩ = some u
/-- A does not lie in S. -/
def Off (A:Option Addr) (S:Nat → Prop):Prop:=∀ a,A = some a → ¬ S a.block
/-- A does not lie in S, or has nothing. -/
def Ofl (A:Option Addr) (xs:List Value) (S:Nat → Prop):Prop:=∀ a,A = some a → xs ≠ [] → ¬ S a.block
theorem Off.l {A:Option Addr} {S:Nat → Prop} (h:Off A S) (xs:List Value):Ofl A xs S:=fun a ha _ => h a ha
section
variable {S:Nat → Prop} {w w':World} {A:Option Addr} {xs:List Value}
theorem Rd.ofl (h:Rd w A xs) (hS:∀ i,S i → w.heap.size ≤ i):Ofl A xs S:=fun a ha hx hs => by
 obtain ⟨u,hu⟩:∃ u,xs[0]? = some u:=by
  cases xs with
  | nil => exact absurd rfl hx
  | cons u l => exact ⟨u,rfl⟩
 obtain ⟨b,o,e,hc⟩:=h 0 u hu
 rw [ha] at e
 cases e
 have:=World.block_lt_of_cell? w _ hc
 have:=hS _ hs
 simp at *
 omega
theorem Rd.nil (w:World) (A:Option Addr):Rd w A []:=fun j u h => by simp at h
theorem Rd.kp (h:Rd w A xs) (k:Kp S w w') (hn:Ofl A xs S):Rd w' A xs:=fun j u hj => by
 obtain ⟨b,o,rfl,hc⟩:=h j u hj
 exact ⟨b,o,rfl,k.cell_some hc (hn ⟨b,o,none⟩ rfl (by rintro rfl; cases hj):¬ S b)⟩
theorem Rd.nw (h:Rd w A xs) (k:Nw w w'):Rd w' A xs:=h.kp k fun _ _ _ h => h
theorem Rd.take (h:Rd w A xs) (n:Nat):Rd w A (xs.take n):=fun j u hj => by
 rw [List.getElem?_take] at hj
 split at hj
 ·exact h j u hj
 ·cases hj
theorem Rd.at_ (h:Rd w A xs) {j:Nat} (hj:j < xs.length):∃ b o,A = some ⟨b,o,none⟩ ∧ w.cell? ⟨b,o + j,none⟩ = some xs[j]:=h j _ (List.getElem?_eq_getElem hj)
theorem Rd.drop {b o:Nat} (h:Rd w (some ⟨b,o,none⟩) xs) (n:Nat):Rd w (some ⟨b,o + n,none⟩) (xs.drop n):=fun j u hj => by
 rw [List.getElem?_drop] at hj
 obtain ⟨b',o',e,hc⟩:=h _ u hj
 cases e
 exact ⟨b,o + n,rfl,by rw [Nat.add_assoc]; exact hc⟩
theorem Rd.drop' (h:Rd w A xs) (n:Nat):Rd w (A.map fun a => a.add n) (xs.drop n):=fun j u hj => by
 have hj':=hj
 rw [List.getElem?_drop] at hj
 obtain ⟨b',o',rfl,hc⟩:=h _ u hj
 refine ⟨b',o' + n,by simp [Addr.add_lit],by rw [Nat.add_assoc]; exact hc⟩
end
/-! ### Blocks that are known; rows that are owned -/
/-- Block g is just these cells. -/
def Blk (w:World) (g:Nat) (t:TypeId) (cs:Array Value):Prop:=w.heap[g]? = some (.cells cs t (0,0))
section
variable {S:Nat → Prop} {w w':World} {g:Nat} {t:TypeId} {cs:Array Value}
theorem Blk.lt (h:Blk w g t cs):g < w.heap.size:=lt_of_heap h
theorem Blk.cell (h:Blk w g t cs) (i:Nat):w.cell? ⟨g,i,none⟩ = cs[i]?:=cell_of_row w g i cs t (0,0) h
theorem Blk.frozen (h:Blk w g t cs) (i:Nat):w.frozen? ⟨g,i,none⟩ = false:=by
 unfold Blk at h
 simp [World.frozen?,h]
theorem Blk.new (w:World) (t:TypeId) (cs:Array Value):Blk (w.alloc (.cells cs t)) w.heap.size t cs:=heap_alloc_new w _
theorem Blk.fresh {b:Nat} (hb:b = w.heap.size):Blk (w.alloc (.cells cs t)) b t cs:=by subst hb; exact Blk.new w t cs
theorem Blk.kp (h:Blk w g t cs) (k:Kp S w w') (hn:¬ S g):Blk w' g t cs:=k.heap h hn
theorem Blk.nw (h:Blk w g t cs) (k:Nw w w'):Blk w' g t cs:=h.kp k fun h => h
theorem Blk.set (h:Blk w g t cs) (i:Nat) (u:Value):Blk (w.setCell ⟨g,i,none⟩ u) g t (cs.setIfInBounds i u):=by
 unfold Blk at h ⊢
 simp [World.setCell,Array.getElem?_modify,h]
end
/-- The block of an address. -/
def blk:Option Addr → Nat → Prop
 | some a,k => k = a.block
 | none,_ => False
/-- A slice (A, n, c) that owns its block from the head on: elements of type e, of sz cells each, the first n of which are xs. -/
def Ow (w:World) (e:TypeId) (sz:Nat) (A:Option Addr) (n c:Nat) (xs:List Value):Prop :=
 xs.length = n * sz ∧ n ≤ c ∧ c ≤ maxLen ∧ ((A = none ∧ c = 0) ∨ ∃ g cur,A = some ⟨g,0,none⟩ ∧ Blk w g e cur ∧ c * sz ≤ cur.size ∧ cur.toList.take (n * sz) = xs)
section
variable {S:Nat → Prop} {w w':World} {e:TypeId} {sz n c:Nat} {A:Option Addr} {xs:List Value}
theorem Ow.nil (w:World) (e:TypeId) (sz:Nat):Ow w e sz none 0 0 []:=⟨by simp,Nat.le_refl _,by simp [maxLen],.inl ⟨rfl,rfl⟩⟩
theorem Ow.kp (h:Ow w e sz A n c xs) (k:Kp S w w') (hn:Off A S):Ow w' e sz A n c xs:=by
 obtain ⟨h1,h2,h3,h4⟩:=h
 refine ⟨h1,h2,h3,?_⟩
 rcases h4 with h4 | ⟨g,cur,rfl,hg,h5⟩
 ·exact .inl h4
 ·exact .inr ⟨g,cur,rfl,hg.kp k (hn _ rfl),h5⟩
theorem Ow.nw (h:Ow w e sz A n c xs) (k:Nw w w'):Ow w' e sz A n c xs:=h.kp k fun _ _ h => h
theorem Ow.rd (h:Ow w e sz A n c xs):Rd w A xs:=by
 obtain ⟨h1,h2,h3,h4⟩:=h
 intro j u hj
 rcases h4 with ⟨rfl,rfl⟩ | ⟨g,cur,rfl,hg,h5,h6⟩
 ·obtain rfl:n = 0:=by omega
  have:xs = []:=List.eq_nil_of_length_eq_zero (by simpa using h1)
  subst this
  simp at hj
 ·refine ⟨g,0,rfl,?_⟩
  rw [hg.cell,Nat.zero_add]
  subst h6
  rw [List.getElem?_take] at hj
  split at hj
  ·simpa using hj
  ·cases hj
theorem Ow.lt (h:Ow w e sz A n c xs):∀ a,A = some a → a.block < w.heap.size:=by
 intro a ha
 rcases h.2.2.2 with ⟨rfl,_⟩ | ⟨g,cur,rfl,hg,_⟩
 ·cases ha
 ·cases ha; exact hg.lt
theorem Ow.take (h:Ow w e sz A n c xs) {m:Nat} (hm:m ≤ n):Ow w e sz A m c (xs.take (m * sz)):=by
 obtain ⟨h1,h2,h3,h4⟩:=h
 have hle:m * sz ≤ n * sz:=Nat.mul_le_mul_right _ hm
 refine ⟨by rw [List.length_take,h1]; omega,by omega,h3,?_⟩
 rcases h4 with h4 | ⟨g,cur,rfl,hg,h5,h6⟩
 ·exact .inl h4
 ·refine .inr ⟨g,cur,rfl,hg,h5,?_⟩
  rw [← h6,List.take_take,Nat.min_eq_left hle]
/-- A new block. -/
theorem Ow.made (w:World) (e:TypeId) (sz n:Nat) (cs:Array Value) (hs:cs.size = n * sz) (hn:n ≤ maxLen):Ow (w.alloc (.cells cs e)) e sz (some ⟨w.heap.size,0,none⟩) n n cs.toList :=
 ⟨by simpa using hs,Nat.le_refl _,hn,.inr ⟨_,cs,rfl,Blk.new w e cs,by omega,by rw [List.take_of_length_le (by simp; omega)]⟩⟩
end
theorem blk_of {A:Option Addr} {k:Nat} (h:blk A k):∃ a,A = some a ∧ a.block = k:=by
 cases A with
 | none => exact h.elim
 | some a => exact ⟨a,rfl,h.symm⟩
theorem Off.of_blk {A:Option Addr} {S:Nat → Prop} (h:∀ k,blk A k → ¬ S k):Off A S:=by
 rintro a rfl
 exact h _ rfl
theorem add_block (a:Addr) (n:Nat):(a.add n).block = a.block:=by unfold Addr.add; split <;> rfl
/-- A row from m on, as 'x[m:]' has it. -/
def cutA (A:Option Addr) (c m:Nat):Option Addr:=if c = m then A else A.map fun a => a.add m
theorem blk_cut {A:Option Addr} {c m k:Nat} (h:blk (cutA A c m) k):blk A k:=by
 unfold cutA at h
 split at h
 ·exact h
 ·cases A with
  | none => exact h
  | some a => simpa [blk,add_block] using h
theorem Off.cut {A:Option Addr} {S:Nat → Prop} (h:Off A S) (c m:Nat):Off (cutA A c m) S:=Off.of_blk fun k hk => by
 obtain ⟨a,rfl,rfl⟩:=blk_of (blk_cut hk)
 exact h a rfl
theorem Rd.cut {w:World} {A:Option Addr} {xs:List Value} {c:Nat} (h:Rd w A xs) (hc:xs.length ≤ c) (m:Nat):Rd w (cutA A c m) (xs.drop m):=by
 unfold cutA
 split
 ·rename_i e
  rw [List.drop_eq_nil_of_le (by omega)]
  exact Rd.nil _ _
 ·exact h.drop' m
/-- What is to be known of a slice's type. -/
structure SlT (P:Program) (t e:TypeId) (sz bytes:Nat) (z:Value):Prop where
 under:P.underlying t = some (.slice e)
 info:(P.info? e).map (fun i => (i.zero,i.size,i.bytes)) = some (some z,sz,bytes)
 zs:z.cells.size = sz
 pos:0 < sz
theorem run_firstCells_rd (P:Program) (w:World) (sz n:Nat) (A:Option Addr) (len cap:Nat) (cs:List Value) (hl:cs.length = n * sz) (h:Rd w A cs) (hA:A = none → cs = []) :
  (Builtin.firstCells sz n (.slice A len cap)).run P w = .ok cs.toArray w:=by
 cases A with
 | none => rw [hA rfl]; rfl
 | some a =>
  refine run_firstCells_some (P:=P) w sz n a len cap cs hl fun j v hj => ?_
  obtain ⟨b,o,ha,hc⟩:=h j v hj
  cases ha
  rw [Addr.add_lit]
  exact hc
/-- APPEND onto an owned row. -/
theorem app {P:Program} {K:Value → World → Prop} {k:Stop K} {w:World} {t ty e:TypeId} {sz bytes:Nat} {z:Value} (T:SlT P t e sz bytes z) {A B:Option Addr} {n c m d:Nat} {xs ys:List Value}
  (ho:Ow w e sz A n c xs) (hr:Rd w B ys) (hm:ys.length = m * sz) (h1:∀ u ∈ ys,u.oneCell' = true) (h63:n + m ≤ 9223372036854775807) (hb:(n + m) * bytes ≤ 140737488355328)
  (h:∀ A' c' w',Ow w' e sz A' (n + m) c' (xs ++ ys) → Kp (blk A) w w' → (A' = A ∨ A' = some ⟨w.heap.size,0,none⟩ ∧ w.heap.size < w'.heap.size) → K (.slice A' (n + m) c') w') :
  wV K k (appS P #[t,t] ty #[.slice A n c,.slice B m d] w):=by
 obtain ⟨hu,hinf,hzs,hpos⟩:=T
 obtain ⟨i,hi,hz0,hz1,hz2⟩:∃ i,P.info? e = some i ∧ i.zero = some z ∧ i.size = sz ∧ i.bytes = bytes:=by
  cases hp:P.info? e with
  | none => rw [hp] at hinf; cases hinf
  | some i => rw [hp] at hinf; simp at hinf; exact ⟨i,rfl,hinf.1,hinf.2.1,hinf.2.2⟩
 clear hinf
 have hBnil:B = none → ys = []:=by
  rintro rfl
  cases ys with
  | nil => rfl
  | cons u l => obtain ⟨b,o,hb,_⟩:=hr 0 u rfl; cases hb
 obtain ⟨hl,hnc,hcm,h4⟩:=ho
 subst hz1
 subst hz2
 have hf:(Builtin.firstCells i.size m (.slice B m d)).run P w = .ok ys.toArray w:=run_firstCells_rd P w i.size m B m d ys hm hr hBnil
 have hff:∀ w1:World,w1.heap = w.heap → (Builtin.firstCells i.size m (.slice B m d)).run P w1 = .ok ys.toArray w1:=fun w1 hw => run_firstCells_rd P w1 i.size m B m d ys hm (fun j u hj => by
  obtain ⟨b,o,hb,hc⟩:=hr j u hj
  exact ⟨b,o,hb,by simpa [World.cell?,hw] using hc⟩) hBnil
 unfold appS
 by_cases hroom:n + m ≤ c
 ·-- in place
  rcases h4 with ⟨rfl,rfl⟩ | ⟨g,cur,rfl,hg,hcs,htk⟩
  ·obtain rfl:n = 0:=by omega
   obtain rfl:m = 0:=by omega
   have hys:ys = []:=List.eq_nil_of_length_eq_zero (by simpa using hm)
   have hxs:xs = []:=List.eq_nil_of_length_eq_zero (by simpa using hl)
   subst hys; subst hxs
   have hrun:(Builtin.append_ #[t,t] ty #[.slice none 0 0,.slice B 0 d]).run P w = .ok (.slice none 0 0) w:=by
    simp [Builtin.append_,run_underlying hu,sizeOf,typeInfo,hi,Builtin.lenOf,hf]
   rw [hrun]
   exact h none 0 w ⟨by simp,Nat.le_refl _,hcm,.inl ⟨rfl,rfl⟩⟩ (Kp.refl _ _) (.inl rfl)
  ·have hfit:n * i.size + ys.length ≤ cur.size:=by
    rw [hm,← Nat.add_mul]
    exact Nat.le_trans (Nat.mul_le_mul_right _ hroom) hcs
   have hst:=run_storeCells_at P g (n * i.size) e ys 0 cur w hg (by simpa using hfit) h1
   simp only [Nat.add_zero] at hst
   have hrun:(Builtin.append_ #[t,t] ty #[.slice (some ⟨g,0,none⟩) n c,.slice B m d]).run P w = .ok (.slice (some ⟨g,0,none⟩) (n + m) c) (w.setRow g (cur.toList.take (n * i.size) ++ ys ++ cur.toList.drop (n * i.size + ys.length)).toArray):=by
    simp [Builtin.append_,run_underlying hu,sizeOf,typeInfo,hi,Builtin.lenOf,hroom,hf,Addr.add_lit,hst]
   rw [hrun]
   refine h _ c _ ⟨by rw [List.length_append,hl,hm,Nat.add_mul],hroom,hcm,.inr ⟨g,_,rfl,setRow_heap w g cur _ e (0,0) hg,?_,?_⟩⟩ ⟨rfl,rfl,rfl,by simp,fun j hj hn => setRow_other w g j _ hn⟩ (.inl rfl)
   ·simp; omega
   ·subst htk
    have hle:n * i.size ≤ cur.size:=by omega
    have e1:(cur.toList.take (n * i.size) ++ ys).length = (n + m) * i.size:=by
     rw [List.length_append,List.length_take,Array.length_toList,Nat.min_eq_left hle,hm,Nat.add_mul]
    rw [List.take_append_of_le_length (by omega),List.take_of_length_le (by omega)]
 ·-- a new block
  have hmpos:0 < m:=by omega
  obtain ⟨b,rfl⟩:∃ b,B = some b:=by
   cases B with
   | none =>
    have h0:=hBnil rfl
    subst h0
    have hp:=Nat.mul_pos hmpos hpos
    simp only [List.length_nil] at hm
    omega
   | some b => exact ⟨b,rfl⟩
  have hnews:∀ j u,ys[j]? = some u → w.cell? (b.add j) = some u:=fun j u hj => by
   obtain ⟨b',o',e1,hc⟩:=hr j u hj
   cases e1
   rw [Addr.add_lit]; exact hc
  have hlen:(xs ++ ys).length = (n + m) * i.size:=by rw [List.length_append,hl,hm,Nat.add_mul]
  have grown:∀ (old:Nat),Ow (w.drew.alloc (.cells (xs.toArray ++ ys.toArray ++ Builtin.zeroCells z.cells (grownCap w (n + m) old e - (n + m))) e)) e i.size (some ⟨w.heap.size,0,none⟩) (n + m) (grownCap w (n + m) old e) (xs ++ ys):=by
   intro old
   have hge:=grownCap_ge w (n + m) old e
   refine ⟨hlen,hge,grownCap_le_maxLen w (n + m) old e (by simp only [maxLen]; omega),.inr ⟨w.heap.size,_,rfl,Blk.new w.drew e _,?_,?_⟩⟩
   ·simp only [Array.size_append,List.size_toArray,size_zeroCells,hzs,hl,hm,← Nat.add_mul]
    rw [show n + m + (grownCap w (n + m) old e - (n + m)) = grownCap w (n + m) old e by omega]
    exact Nat.le_refl _
   ·simp only [Array.toList_append,List.append_assoc]
    rw [← List.append_assoc,← hlen]
    exact List.take_left
  have hkp:∀ (o:Obj),Kp (blk A) w (w.drew.alloc o):=fun o => ((Kp.refl _ w).drew).alloc o
  rcases h4 with ⟨rfl,rfl⟩ | ⟨g,cur,rfl,hg,hcs,htk⟩
  ·obtain rfl:n = 0:=by omega
   have hxs:xs = []:=List.eq_nil_of_length_eq_zero (by simpa using hl)
   subst hxs
   have hrun:=run_append_nil (P:=P) w t ty e i z hu hi hz0 b m d ys hm hnews (by omega) (by omega) (by simp only [Nat.zero_add] at hb; omega)
   rw [hrun]
   have hgr:=grown 0
   simp only [Nat.zero_add,List.nil_append,Array.empty_append] at hgr h ⊢
   exact h _ _ _ hgr (hkp _) (.inr ⟨rfl,by simp⟩)
  ·have holds:∀ j u,xs[j]? = some u → w.cell? ((⟨g,0,none⟩:Addr).add j) = some u:=by
    intro j u hj
    obtain ⟨b',o',e1,hc⟩:=(show Ow w e i.size _ n c xs from ⟨hl,hnc,hcm,.inr ⟨g,cur,rfl,hg,hcs,htk⟩⟩).rd j u hj
    cases e1
    rw [Addr.add_lit]; exact hc
   have hrun:=run_append_grow (P:=P) w t ty e i z hu hi hz0 ⟨g,0,none⟩ n c xs hl holds b m d ys hm hnews (by omega) (by omega) (growslice_fits (by omega) hb)
   rw [hrun]
   exact h _ _ _ (grown c) (hkp _) (.inr ⟨rfl,by simp⟩)
/-! ### Conversions -/
theorem Rd.of_heap {w:World} {g:Nat} {C:Array Value} {e:TypeId} {fr:Nat × Nat} (h:w.heap[g]? = some (.cells C e fr)):Rd w (some ⟨g,0,none⟩) C.toList:=fun j u hj => by
 refine ⟨g,0,rfl,?_⟩
 simp only [World.cell?,h]
 simpa using hj
/-! ### What an object may take up -/
/-- F' is within F and what is new from w to w'. -/
def Gr (F F':Nat → Prop) (w w':World):Prop:=∀ k,F' k → F k ∨ w.heap.size ≤ k ∧ k < w'.heap.size
theorem Gr.refl (F:Nat → Prop) (w:World):Gr F F w w:=fun _ h => .inl h
theorem Gr.trans {F F' F'':Nat → Prop} {a b c:World} (h:Gr F F' a b) (k:Gr F' F'' b c) (h1:a.heap.size ≤ b.heap.size) (h2:b.heap.size ≤ c.heap.size):Gr F F'' a c:=fun i hi => by
 rcases k i hi with hi | hi
 ·rcases h i hi with hi | hi
  ·exact .inl hi
  ·exact .inr ⟨hi.1,by omega⟩
 ·exact .inr ⟨by omega,hi.2⟩
/-- What is done within F' counts as done within F, seen from w on. -/
theorem Kp.gr {F F':Nat → Prop} {a b c:World} (h:Kp F a b) (hg:Gr F F' a b) (k:Kp F' b c):Kp F a c:=h.trans k fun i hi hf => by
 rcases hg i hf with h | h
 ·exact h
 ·omega
/-- F holds only what is new since w. -/
abbrev Nf (w:World) (F:Nat → Prop):Prop:=∀ i,F i → w.heap.size ≤ i
theorem Nf.at_ {w:World} {g:Nat} (h:w.heap.size ≤ g):Nf w (At g):=fun i (hi:i = g) => by omega
theorem Nw.at_ {a w w':World} {F:Nat → Prop} (h:Nw w a) (k:Kp F a w') (hF:Nf w F):Nw w w':=h.trans k fun i hi h => by
 have:=hF i h
 omega
theorem Nf.gr {a w w':World} {F F':Nat → Prop} (h:Nf w F) (hG:Gr F F' a w') (hk:w.heap.size ≤ a.heap.size):Nf w F':=fun i hi => by
 rcases hG i hi with h' | h'
 ·exact h i h'
 ·omega
/-- The rows of a slice of slices of bytes. -/
def Brs (w:World) (A:Option Addr) (ps:List (List UInt8)) (S:Nat → Prop):Prop :=
 ∃ vs:List Value,vs.length = ps.length ∧ Rd w A vs ∧ Ofl A vs S ∧ ∀ i (h:i < ps.length),∃ B d,vs[i]? = some (.slice B ps[i].length d) ∧ Rd w B (ps[i].map u8) ∧ Ofl B (ps[i].map u8) S ∧ ps[i].length ≤ d
theorem Brs.kp {w w':World} {A:Option Addr} {ps:List (List UInt8)} {S:Nat → Prop} (h:Brs w A ps S) (k:Kp S w w'):Brs w' A ps S:=by
 obtain ⟨vs,hl,hr,ho,hi⟩:=h
 refine ⟨vs,hl,hr.kp k ho,ho,fun i hi' => ?_⟩
 obtain ⟨B,d,h1,h2,h3,h4⟩:=hi i hi'
 exact ⟨B,d,h1,h2.kp k h3,h3,h4⟩
/-- Rows that were there lie out of all that is new. -/
theorem Brs.ofl {w:World} {A:Option Addr} {ps:List (List UInt8)} {S S':Nat → Prop} (h:Brs w A ps S) (hS:∀ i,S' i → w.heap.size ≤ i):Brs w A ps S':=by
 obtain ⟨vs,hl,hr,ho,hi⟩:=h
 refine ⟨vs,hl,hr,hr.ofl hS,fun i hi' => ?_⟩
 obtain ⟨B,d,h1,h2,h3,h4⟩:=hi i hi'
 exact ⟨B,d,h1,h2,h2.ofl hS,h4⟩
theorem Brs.nw {w w':World} {A:Option Addr} {ps:List (List UInt8)} {S:Nat → Prop} (h:Brs w A ps S) (k:Nw w w'):Brs w' A ps S:=by
 obtain ⟨vs,hl,hr,ho,hi⟩:=h
 refine ⟨vs,hl,hr.nw k,ho,fun i hi' => ?_⟩
 obtain ⟨B,d,h1,h2,h3,h4⟩:=hi i hi'
 exact ⟨B,d,h1,h2.nw k,h3,h4⟩
theorem Rd.fresh {w:World} {b:Nat} {cs:Array Value} {t:TypeId} {xs:List Value} (hb:b = w.heap.size) (hx:cs.toList = xs):Rd (w.alloc (.cells cs t)) (some ⟨b,0,none⟩) xs:=by
 subst hb; subst hx
 exact Rd.of_heap (heap_alloc_new _ _)
/-- Rows of which each is known. -/
theorem Brs.one {w:World} {g:Nat} {B:Option Addr} {d:Nat} {p:List UInt8} {S:Nat → Prop} {t:TypeId} (h:Blk w g t #[.slice B p.length d]) (hg:¬ S g) (hr:Rd w B (p.map u8)) (hB:Off B S) (hd:p.length ≤ d):Brs w (some ⟨g,0,none⟩) [p] S :=
 ⟨[.slice B p.length d],rfl,Rd.of_heap h,fun a ha _ => by cases ha; exact hg,fun i hi => by
  obtain rfl:i = 0:=by simp at hi; omega
  exact ⟨B,d,rfl,hr,hB.l _,hd⟩⟩
theorem Brs.two {w:World} {g:Nat} {A B:Option Addr} {c d:Nat} {p q:List UInt8} {S:Nat → Prop} {t:TypeId} (h:Blk w g t #[.slice A p.length c,.slice B q.length d]) (hg:¬ S g) (hr:Rd w A (p.map u8)) (hA:Off A S) (hc:p.length ≤ c)
  (hr':Rd w B (q.map u8)) (hB:Off B S) (hd:q.length ≤ d):Brs w (some ⟨g,0,none⟩) [p,q] S :=
 ⟨[.slice A p.length c,.slice B q.length d],rfl,Rd.of_heap h,fun a ha _ => by cases ha; exact hg,fun i hi => by
  have hi:i < 2:=hi
  obtain rfl | rfl:i = 0 ∨ i = 1:=by omega
  ·exact ⟨A,c,rfl,hr,hA.l _,hc⟩
  ·exact ⟨B,d,rfl,hr',hB.l _,hd⟩⟩
/-- What is new since block B may have turned. -/
abbrev Fr (B:Nat):Nat → Prop:=fun k => B ≤ k
theorem Nw.fr {w0 w w':World} {B:Nat} (h:Nw w0 w) (k:Kp (Fr B) w w') (hB:w0.heap.size ≤ B):Nw w0 w':=h.trans k fun i hi (h:B ≤ i) => by omega
theorem Kp.fr {w0 w w':World} {B B0:Nat} (h:Kp (Fr B0) w0 w) (k:Kp (Fr B) w w') (hB:B0 ≤ B):Kp (Fr B0) w0 w':=h.trans k fun i hi (h:B ≤ i) => (by omega:B0 ≤ i)
theorem Off.fr {A:Option Addr} {B:Nat} (h:∀ a,A = some a → a.block < B):Off A (Fr B):=fun a ha (hb:B ≤ a.block) => by have:=h a ha; omega
/-- A slice in memory that is new since block B: n elements of sz cells each. -/
def Gs (w:World) (e:TypeId) (sz:Nat) (v:Value) (n:Nat) (xs:List Value) (B:Nat):Prop:=∃ A c,v = .slice A n c ∧ Ow w e sz A n c xs ∧ ∀ a,A = some a → B ≤ a.block
section
variable {w w':World} {e:TypeId} {sz n B:Nat} {v:Value} {xs:List Value} {S:Nat → Prop}
theorem Gs.nil (w:World) (e:TypeId) (sz B:Nat):Gs w e sz (.slice none 0 0) 0 [] B:=⟨none,0,rfl,Ow.nil _ _ _,by simp⟩
theorem Gs.made (w:World) (e:TypeId) (sz n:Nat) (cs:Array Value) {xs:List Value} {b B:Nat} (hb:b = w.heap.size) (hx:cs.toList = xs) (hs:cs.size = n * sz) (hn:n ≤ maxLen) (hB:B ≤ w.heap.size):Gs (w.alloc (.cells cs e)) e sz (.slice (some ⟨b,0,none⟩) n n) n xs B:=by
 subst hb; subst hx
 exact ⟨_,n,rfl,Ow.made w e sz n cs hs hn,fun a ha => by cases ha; exact hB⟩
theorem Gs.kp (h:Gs w e sz v n xs B) (k:Kp S w w') (hn:∀ i,B ≤ i → i < w.heap.size → ¬ S i):Gs w' e sz v n xs B:=by
 obtain ⟨A,c,rfl,ho,hB⟩:=h
 exact ⟨A,c,rfl,ho.kp k fun a ha => hn _ (hB a ha) (ho.lt a ha),hB⟩
theorem Gs.nw (h:Gs w e sz v n xs B) (k:Nw w w'):Gs w' e sz v n xs B:=h.kp k fun _ _ _ h => h
theorem Gs.mono {B':Nat} (h:Gs w e sz v n xs B) (hB:B' ≤ B):Gs w e sz v n xs B':=by
 obtain ⟨A,c,rfl,ho,hf⟩:=h
 exact ⟨A,c,rfl,ho,fun a ha => Nat.le_trans hB (hf a ha)⟩
end
/-- APPEND onto such a slice. -/
theorem gs_app {P:Program} {K:Value → World → Prop} {k:Stop K} {w:World} {t ty e:TypeId} {sz bytes:Nat} {z:Value} (T:SlT P t e sz bytes z) {X:Option Addr} {v:Value} {n m d B:Nat} {xs ys:List Value}
  (ho:Gs w e sz v n xs B) (hr:Rd w X ys) (hm:ys.length = m * sz) (h1:∀ u ∈ ys,u.oneCell' = true) (h63:n + m ≤ 9223372036854775807) (hb:(n + m) * bytes ≤ 140737488355328) (hB:B ≤ w.heap.size)
  (h:∀ v' w',Gs w' e sz v' (n + m) (xs ++ ys) B → Kp (Fr B) w w' → K v' w') :
  wV K k (appS P #[t,t] ty #[v,.slice X m d] w):=by
 obtain ⟨A,c,rfl,ho,hA⟩:=ho
 refine app T ho hr hm h1 h63 hb fun A' c' w' ho' hk hAA => h _ _ ⟨A',c',rfl,ho',fun a ha => ?_⟩ (hk.mono fun i _ hi => ?_)
 ·rcases hAA with rfl | ⟨rfl,_⟩
  ·exact hA a ha
  ·cases ha; exact hB
 ·obtain ⟨a,rfl,rfl⟩:=blk_of hi
  exact hA a rfl
/-- A cell of an owned row is written. -/
theorem Ow.set {w:World} {e:TypeId} {g n c:Nat} {xs:List Value} (h:Ow w e 1 (some ⟨g,0,none⟩) n c xs) (i:Nat) (u:Value):Ow (w.setCell ⟨g,i,none⟩ u) e 1 (some ⟨g,0,none⟩) n c (xs.set i u):=by
 obtain ⟨h1,h2,h3,h4⟩:=h
 refine ⟨by simpa using h1,h2,h3,?_⟩
 rcases h4 with ⟨h4,_⟩ | ⟨g',cur,e,hg,h5,h6⟩
 ·cases h4
 ·cases e
  refine .inr ⟨_,_,rfl,hg.set i u,by simpa using h5,?_⟩
  subst h6
  rw [Array.toList_setIfInBounds,List.take_set]
theorem Ow.frozen {w:World} {e:TypeId} {g sz n c:Nat} {xs:List Value} (h:Ow w e sz (some ⟨g,0,none⟩) n c xs) (i:Nat):w.frozen? ⟨g,i,none⟩ = false:=by
 obtain ⟨h1,h2,h3,h4⟩:=h
 rcases h4 with ⟨h4,_⟩ | ⟨g',cur,e,hg,h5,h6⟩
 ·cases h4
 ·cases e; exact hg.frozen i
theorem Ow.some {w:World} {e:TypeId} {sz n c:Nat} {A:Option Addr} {xs:List Value} (h:Ow w e sz A n c xs) (hn:0 < n):∃ g,A = Option.some ⟨g,0,none⟩:=by
 obtain ⟨h1,h2,h3,h4⟩:=h
 rcases h4 with ⟨_,h4⟩ | ⟨g',cur,e,hg,h5,h6⟩
 ·omega
 ·exact ⟨g',e⟩
/-- MakeNoZero. -/
theorem nz_ok {P:Program} {K:Value → World → Prop} {k:Stop K} {w:World} {t e:TypeId} (ht:P.underlying t = some (.slice e)) (n:Nat) (hn:n ≤ 140737488355328)
  (h:∀ cs:Array Value,n ≤ cs.size → cs.size ≤ maxLen → K (.slice (some ⟨w.heap.size,0,none⟩) n cs.size) (w.drew.drew.alloc (.cells cs e))):wV K k (nzS P t #[.int .i64 n] w):=by
 obtain ⟨cs,h1,h2,h3⟩:=Lib.run_makeNoZero (P:=P) w #[] t e ht n (by omega)
 unfold nzS
 rw [h1]
 exact h cs h2 (h3 (by simp only [maxLen]; omega))
/-- COPY: all of a row into a block that has room from o on. -/
theorem copy_ok {P:Program} {K:Value → World → Prop} {k:Stop K} {w:World} {dT sT ty elem t:TypeId} (hu:P.underlying dT = some (.slice elem)) (hs:(P.info? elem).map (·.size) = some 1) {D:Option Addr} {g o dLen dCap:Nat} (hD:0 < dLen → D = some ⟨g,o,none⟩) {cur:Array Value} (hg:Blk w g t cur)
  {B:Option Addr} {n sCap:Nat} {ys:List Value} (hr:Rd w B ys) (hn:ys.length = n) (hd:n ≤ dLen) (hfit:o + n ≤ cur.size) (h1:∀ v ∈ ys,v.oneCell' = true)
  (h:∀ w',(n = 0 ∧ w' = w ∨ w' = w.setRow g (cur.toList.take o ++ ys ++ cur.toList.drop (o + n)).toArray) → K (.int .i64 n) w'):wV K k (copyS P #[dT,sT] ty #[.slice D dLen dCap,.slice B n sCap] w):=by
 unfold copyS
 by_cases h0:n = 0
 ·subst h0
  rw [run_copy_none w dT sT ty elem D B dLen dCap 0 sCap hu hs (by simp)]
  exact h w (.inl ⟨rfl,rfl⟩)
 ·obtain ⟨u,hu0⟩:∃ u,ys[0]? = some u:=by
   cases ys with
   | nil => simp at hn; omega
   | cons u l => exact ⟨u,rfl⟩
  obtain ⟨b,p,rfl,_⟩:=hr 0 u hu0
  rw [hD (by omega),run_copy_row P w dT sT ty elem g o dLen dCap ⟨b,p,none⟩ n sCap cur t ys hu hs hg (by rw [hn]; exact (Nat.min_eq_left hd).symm) (fun j v hj => by
   obtain ⟨b',o',e,hc⟩:=hr j v hj
   cases e
   rw [Addr.add_lit]; exact hc) (by omega) h1]
  rw [hn]
  exact h _ (.inr rfl)
/-- COPY of nothing. -/
theorem copy_none {P:Program} {K:Value → World → Prop} {k:Stop K} {w:World} {dT sT ty elem:TypeId} (hu:P.underlying dT = some (.slice elem)) (hs:(P.info? elem).map (·.size) = some 1) {D B:Option Addr} {dLen dCap sCap:Nat}
  (h:K (.int .i64 0) w):wV K k (copyS P #[dT,sT] ty #[.slice D dLen dCap,.slice B 0 sCap] w):=by
 unfold copyS
 rw [run_copy_none w dT sT ty elem D B dLen dCap 0 sCap hu hs (by simp)]
 exact h
/-- COPY, onto what stands up to o. -/
theorem copy_at {P:Program} {K:Value → World → Prop} {k:Stop K} {w:World} {dT sT ty elem t:TypeId} (hu:P.underlying dT = some (.slice elem)) (hs:(P.info? elem).map (·.size) = some 1) {D:Option Addr} {g o dLen dCap:Nat} (hD:0 < dLen → D = some ⟨g,o,none⟩) {cur:Array Value} (hg:Blk w g t cur)
  {B:Option Addr} {n sCap:Nat} {ys:List Value} (hr:Rd w B ys) (hn:ys.length = n) (hd:n ≤ dLen) (hfit:o + n ≤ cur.size) (h1:∀ v ∈ ys,v.oneCell' = true)
  (h:∀ w' cur',Blk w' g t cur' → cur'.size = cur.size → cur'.toList.take (o + n) = cur.toList.take o ++ ys → Kp (At g) w w' → K (.int .i64 n) w'):wV K k (copyS P #[dT,sT] ty #[.slice D dLen dCap,.slice B n sCap] w):=by
 refine copy_ok hu hs hD hg hr hn hd hfit h1 ?_
 rintro w' (⟨rfl,rfl⟩ | rfl)
 ·have:ys = []:=List.eq_nil_of_length_eq_zero hn
  subst this
  exact h _ cur hg rfl (by simp) (Kp.refl _ _)
 ·have hle:o ≤ cur.toList.length:=by simp; omega
  refine h _ _ (setRow_heap w g cur _ t (0,0) hg) ?_ ?_ ⟨rfl,rfl,rfl,by simp,fun j hj hn => setRow_other w g j _ hn⟩
  ·simp; omega
  ·rw [List.append_assoc]
   simp only [List.toList_toArray]
   rw [List.take_append,List.length_take,Nat.min_eq_left hle,List.take_take,Nat.min_eq_right (by omega),show o + n - o = n by omega,List.take_left' hn]
/-- Values that are slices of bytes, each known. -/
def RV (w:World) (vs:List Value) (ps:List (List UInt8)) (S:Nat → Prop):Prop :=
 vs.length = ps.length ∧ ∀ i (h:i < ps.length),∃ B d,vs[i]? = some (.slice B ps[i].length d) ∧ Rd w B (ps[i].map u8) ∧ Ofl B (ps[i].map u8) S ∧ ps[i].length ≤ d
section
variable {w w':World} {vs us:List Value} {ps qs:List (List UInt8)} {S:Nat → Prop}
theorem RV.brs {A:Option Addr} (h:RV w vs ps S) (hr:Rd w A vs) (ho:Ofl A vs S):Brs w A ps S:=⟨vs,h.1,hr,ho,h.2⟩
theorem RV.nil (w:World) (S:Nat → Prop):RV w [] [] S:=⟨rfl,fun i h => by cases h⟩
theorem RV.append (h:RV w vs ps S) (k:RV w us qs S):RV w (vs ++ us) (ps ++ qs) S:=by
 refine ⟨by rw [List.length_append,List.length_append,h.1,k.1],fun i hi => ?_⟩
 rw [List.length_append] at hi
 by_cases hip:i < ps.length
 ·rw [List.getElem?_append_left (by rw [h.1]; exact hip)]
  simp only [List.getElem_append_left hip]
  exact h.2 i hip
 ·rw [List.getElem?_append_right (by rw [h.1]; omega)]
  simp only [List.getElem_append_right (show ps.length ≤ i by omega),h.1]
  exact k.2 (i - ps.length) (by omega)
theorem RV.kp (h:RV w vs ps S) (k:Kp S w w'):RV w' vs ps S:=⟨h.1,fun i hi => by
 obtain ⟨B,d,h1,h2,h3,h4⟩:=h.2 i hi
 exact ⟨B,d,h1,h2.kp k h3,h3,h4⟩⟩
theorem RV.nw (h:RV w vs ps S) (k:Nw w w'):RV w' vs ps S:=⟨h.1,fun i hi => by
 obtain ⟨B,d,h1,h2,h3,h4⟩:=h.2 i hi
 exact ⟨B,d,h1,h2.nw k,h3,h4⟩⟩
theorem RV.one {B:Option Addr} {d:Nat} {p:List UInt8} (hr:Rd w B (p.map u8)) (hB:Ofl B (p.map u8) S) (hd:p.length ≤ d):RV w [.slice B p.length d] [p] S:=⟨rfl,fun i hi => by
 obtain rfl:i = 0:=by simp at hi; omega
 exact ⟨B,d,rfl,hr,hB,hd⟩⟩
theorem RV.cells (h:RV w vs ps S):∀ u ∈ vs,u.oneCell' = true:=by
 intro u hu
 obtain ⟨i,hi⟩:=List.getElem?_of_mem hu
 have hl:i < ps.length:=by rw [← h.1]; exact (List.getElem?_eq_some_iff.1 hi).1
 obtain ⟨B,d,h1,_⟩:=h.2 i hl
 rw [hi] at h1
 cases h1
 rfl
theorem RV.ofl {S':Nat → Prop} (h:RV w vs ps S) (hS:∀ i,S' i → w.heap.size ≤ i):RV w vs ps S':=⟨h.1,fun i hi => by
 obtain ⟨B,d,h1,h2,h3,h4⟩:=h.2 i hi
 exact ⟨B,d,h1,h2,h2.ofl hS,h4⟩⟩
end
/-- What does not meet does not meet later. -/
theorem Gr.dj {F F' G:Nat → Prop} {w w':World} (h:Gr F F' w w') (hd:∀ i,F i → ¬ G i) (hG:∀ i,G i → i < w.heap.size):∀ i,F' i → ¬ G i:=fun i hi hg => by
 rcases h i hi with h | h
 ·exact hd i h hg
 ·have:=hG i hg; omega
theorem Kp.at_ {a w w':World} {F:Nat → Prop} (h:Kp (fun _ => False) w a) (k:Kp F a w') (hF:Nf w F):Nw w w':=Nw.at_ h k hF
/-- 'string(b)'. -/
theorem conv_str {P:Program} {w:World} {t s e:TypeId} (ht:P.underlying t = some (.slice e)) (he:P.underlying e = some (.int .u8)) (hs:P.underlying s = some .string) {A:Option Addr} {c:Nat} {l:List UInt8} (hr:Rd w A (l.map u8)) :
  convR P t s (.slice A l.length c) w = .ok (.string ⟨l.toArray⟩) w:=by
 unfold convR
 cases A with
 | none =>
  have:l = []:=by
   cases l with
   | nil => rfl
   | cons b l => obtain ⟨_,_,e,_⟩:=hr 0 (u8 b) rfl; cases e
  subst this
  rw [run_convert_bytes_string w t s e none _ c ht he hs]
  rfl
 | some a =>
  refine run_convert_bytes_back w t s e a c l ht he hs fun j hj => ?_
  obtain ⟨b,o,e,hc⟩:=hr j (u8 l[j]) (by simp [hj])
  cases e
  rw [Addr.add_lit]; exact hc
/-- A slice whose memory lies in F. -/
def Gf (w:World) (e:TypeId) (sz:Nat) (v:Value) (n:Nat) (xs:List Value) (F:Nat → Prop):Prop:=∃ A c,v = .slice A n c ∧ Ow w e sz A n c xs ∧ (∀ k,blk A k → F k) ∧ (∀ k,F k → k < w.heap.size)
section
variable {w w':World} {e:TypeId} {sz n:Nat} {v:Value} {xs:List Value} {F S:Nat → Prop}
theorem Gf.nil (w:World) (e:TypeId) (sz:Nat):Gf w e sz (.slice none 0 0) 0 [] (fun _ => False):=⟨none,0,rfl,Ow.nil _ _ _,fun _ h => h,fun _ h => h.elim⟩
theorem Gf.kp (h:Gf w e sz v n xs F) (k:Kp S w w') (hd:∀ i,F i → ¬ S i):Gf w' e sz v n xs F:=by
 obtain ⟨A,c,rfl,ho,h1,h2⟩:=h
 exact ⟨A,c,rfl,ho.kp k (Off.of_blk fun i hi => hd _ (h1 _ hi)),h1,fun i hi => Nat.lt_of_lt_of_le (h2 i hi) k.size⟩
theorem Gf.nw (h:Gf w e sz v n xs F) (k:Nw w w'):Gf w' e sz v n xs F:=h.kp k fun _ _ h => h
theorem Gf.lt (h:Gf w e sz v n xs F):∀ k,F k → k < w.heap.size:=by
 obtain ⟨_,_,_,_,_,h⟩:=h
 exact h
end
theorem gf_app {P:Program} {K:Value → World → Prop} {k:Stop K} {w:World} {t ty e:TypeId} {sz bytes:Nat} {z:Value} (T:SlT P t e sz bytes z) {X:Option Addr} {v:Value} {n m d:Nat} {xs ys:List Value} {F:Nat → Prop}
  (ho:Gf w e sz v n xs F) (hr:Rd w X ys) (hm:ys.length = m * sz) (h1:∀ u ∈ ys,u.oneCell' = true) (h63:n + m ≤ 9223372036854775807) (hb:(n + m) * bytes ≤ 140737488355328)
  (h:∀ v' w' F',Gf w' e sz v' (n + m) (xs ++ ys) F' → Gr F F' w w' → Kp F w w' → K v' w') :
  wV K k (appS P #[t,t] ty #[v,.slice X m d] w):=by
 obtain ⟨A,c,rfl,ho,g1,g2⟩:=ho
 refine app T ho hr hm h1 h63 hb fun A' c' w' ho' hk hAA => ?_
 refine h _ w' (blk A') ⟨A',c',rfl,ho',fun _ h => h,fun i hi => ?_⟩ (fun i hi => ?_) (hk.mono fun i _ hi => g1 i hi)
 ·obtain ⟨a,rfl,rfl⟩:=blk_of hi
  exact ho'.lt a rfl
 ·rcases hAA with rfl | ⟨rfl,hlt⟩
  ·exact .inl (g1 i hi)
  ·have hi:i = w.heap.size:=hi
   subst hi
   exact .inr ⟨Nat.le_refl _,hlt⟩
theorem Ofl.gr {w w':World} {A:Option Addr} {xs:List Value} {F F':Nat → Prop} (h:Ofl A xs F) (hr:Rd w A xs) (hG:Gr F F' w w'):Ofl A xs F':=fun a ha hx hf => by
 rcases hG _ hf with h1 | h1
 ·exact h a ha hx h1
 ·exact hr.ofl (S:=fun i => w.heap.size ≤ i) (fun i hi => hi) a ha hx h1.1
theorem RV.gr {w w':World} {vs:List Value} {ps:List (List UInt8)} {F F':Nat → Prop} (h:RV w vs ps F) (k:Kp F w w') (hG:Gr F F' w w'):RV w' vs ps F':=⟨h.1,fun i hi => by
 obtain ⟨B,d,h1,h2,h3,h4⟩:=h.2 i hi
 exact ⟨B,d,h1,h2.kp k h3,h3.gr h2 hG,h4⟩⟩
/-- A statement that a walk is not to open. -/
abbrev Box (p:Prop) (_:Stop p:=.mk):Prop:=p
/-- The same, of one, two, three, four values that it may look at. -/
abbrev Box1 (p:Value → World → Prop) (a:Value) (w:World) (_:Stop p:=.mk):Prop:=p a w
abbrev Box2 (p:Value → Value → World → Prop) (a b:Value) (w:World) (_:Stop p:=.mk):Prop:=p a b w
abbrev Box3 (p:Value → Value → Value → World → Prop) (a b c:Value) (w:World) (_:Stop p:=.mk):Prop:=p a b c w
end Go.Vc
