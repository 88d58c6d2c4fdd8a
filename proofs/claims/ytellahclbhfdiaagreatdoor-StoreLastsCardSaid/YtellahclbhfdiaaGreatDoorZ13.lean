/-
  A change, a state of users and boxes: plain words. By the session itself. A change told: the pass, the UIDs. By the session itself. States that may be stay such. By the session itself.
-/
import Derived.Test.YtellahclbhfdiaaGreatDoorZ03
import Derived.Test.YtellahclbhfdiaaGreatDoorZ12
import Derived.Test.YtellahclbhfdiaaGreatDoorZ10
import Derived.Laws.RangeString
import Derived.Laws.RangeAny
import Derived.Shelf.GgClosure.StringsRunes
import Derived.Test.YtellahclbhfdiaaGreatDoorZ07
namespace Go.Proofs.YtellahclbhfdiaaGreatDoor
set_option linter.unusedSimpArgs false
set_option linter.unusedVariables false
set_option maxRecDepth 100000
set_option maxHeartbeats 1000000
open Go.Vc Go.RowKit
/-- A change. -/
structure Chg where
 kind:Int
 user:Nm
 pass:Nm
 box:Nm
 to:Nm
 uids:List Int
 mode:Int
 flags:Int
 date:Int
 body:List UInt8
def Chg.zero:Chg:=⟨0,[],[],[],[],[],0,0,0,[]⟩
def nmOk (s:Nm):Bool:=nameOk ⟨s.toArray⟩
def passB (b:UInt8):Bool:=decide (33 ≤ b.toNat) && decide (b.toNat ≤ 126)
def passOk (s:Nm):Bool:=decide (1 ≤ s.length) && (decide (s.length ≤ 12) && s.all passB)
def stepU (l:List Int) (i:Nat):Bool:=okF (l.getD i 0) 1 1048576 && (decide (i = 0) || decide (l.getD (i - 1) 0 < l.getD i 0))
def riseU (l:List Int):Nat → Bool
 | 0 => true
 | i + 1 => riseU l i && stepU l i
def uidsOk (l:List Int):Bool:=riseU l l.length && decide (l.length ≤ 24)
def manyK (k:Int):Bool:=decide (k = 6) || (decide (k = 7) || decide (k = 8))
def toK (k:Int):Bool:=decide (k = 4) || decide (k = 8)
/-- Has a change nothing but what its kind names? -/
def namedOk (c:Chg):Bool:=(if c.kind = 1 then decide (c.box = []) else decide (c.pass = [])) && ((toK c.kind || decide (c.to = [])) && ((manyK c.kind || decide (c.uids = [])) && ((decide (c.kind = 6) || decide (c.mode = 0)) &&
 ((decide (c.kind = 5) || (decide (c.kind = 6) || decide (c.flags = 0))) && ((decide (c.kind = 5) || decide (c.date = 0)) && (decide (c.kind = 5) || decide (c.body = [])))))))
/-- May a change be? -/
def chgOk (c:Chg):Bool:=okF c.kind 1 8 && (nmOk c.user && ((if c.kind = 1 then passOk c.pass else nmOk c.box) && ((!toK c.kind || nmOk c.to) && (namedOk c &&
 (uidsOk c.uids && (okF c.mode 0 2 && (okF c.flags 0 31 && (okF c.date 0 1073741824 && decide (c.body.length ≤ 1200)))))))))
/-- A change's bytes. -/
def encC (c:Chg):List UInt8:=numsB [c.kind] ++ rowsB [c.user,c.pass,c.box,c.to] ++ numsB [(c.uids.length:Int)] ++ numsB c.uids ++ numsB [c.mode,c.flags,c.date] ++ rowsB [c.body]
/-- So many numbers read, while all is well. -/
def uidL:Nat → List UInt8 → Bool → List Int → List Int × List UInt8 × Bool
 | 0,l,bad,acc => (acc,l,bad)
 | n + 1,l,bad,acc => if bad = true then (acc,l,bad) else uidL n (numL l bad).2.1 (numL l bad).2.2 (acc ++ [((numL l bad).1:Int)])
/-- Four texts read. -/
def txt4 (l:List UInt8) (bad:Bool):(Nm × Nm × Nm × Nm) × List UInt8 × Bool :=
 (((bytL l bad).1,(bytL (bytL l bad).2.1 (bytL l bad).2.2).1,(bytL (bytL (bytL l bad).2.1 (bytL l bad).2.2).2.1 (bytL (bytL l bad).2.1 (bytL l bad).2.2).2.2).1,
  (bytL (bytL (bytL (bytL l bad).2.1 (bytL l bad).2.2).2.1 (bytL (bytL l bad).2.1 (bytL l bad).2.2).2.2).2.1 (bytL (bytL (bytL l bad).2.1 (bytL l bad).2.2).2.1 (bytL (bytL l bad).2.1 (bytL l bad).2.2).2.2).2.2).1),
  (bytL (bytL (bytL (bytL l bad).2.1 (bytL l bad).2.2).2.1 (bytL (bytL l bad).2.1 (bytL l bad).2.2).2.2).2.1 (bytL (bytL (bytL l bad).2.1 (bytL l bad).2.2).2.1 (bytL (bytL l bad).2.1 (bytL l bad).2.2).2.2).2.2).2)
/-- What stands behind the texts, with so many numbers: these, three more, a row. -/
def tailMk (u:List Int × List UInt8 × Bool) (x y:Nat) (z:Nat × List UInt8 × Bool) (b:List UInt8 × List UInt8 × Bool):(List Int × Nat × Nat × Nat × List UInt8) × List UInt8 × Bool:=((u.1,x,y,z.1,b.1),b.2)
def tailN (n:Nat) (l:List UInt8) (bad:Bool):(List Int × Nat × Nat × Nat × List UInt8) × List UInt8 × Bool :=
 tailMk (uidL n l bad []) (numL (uidL n l bad []).2.1 (uidL n l bad []).2.2).1 (nm2 (uidL n l bad []).2.1 (uidL n l bad []).2.2).1 (nm3 (uidL n l bad []).2.1 (uidL n l bad []).2.2) (bytL (nm3 (uidL n l bad []).2.1 (uidL n l bad []).2.2).2.1 (nm3 (uidL n l bad []).2.1 (uidL n l bad []).2.2).2.2)
theorem tailN_eq {n:Nat} {l:List UInt8} {bad:Bool} {u:List Int × List UInt8 × Bool} {x y:Nat} {z:Nat × List UInt8 × Bool} {b:List UInt8 × List UInt8 × Bool} (hu:uidL n l bad [] = u) (hx:(numL u.2.1 u.2.2).1 = x) (hy:(nm2 u.2.1 u.2.2).1 = y) (hz:nm3 u.2.1 u.2.2 = z) (hb:bytL z.2.1 z.2.2 = b):tailN n l bad = tailMk u x y z b:=by
 subst hu; subst hx; subst hy; subst hz; subst hb; rfl
def tailL (l:List UInt8) (bad:Bool):(List Int × Nat × Nat × Nat × List UInt8) × List UInt8 × Bool:=tailN (numL l bad).1 (numL l bad).2.1 (numL l bad).2.2
theorem tailL_eq {l:List UInt8} {bad:Bool} {q:Nat × List UInt8 × Bool} (hq:numL l bad = q):tailL l bad = tailN q.1 q.2.1 q.2.2:=by subst hq; rfl
/-- A change out of what was read. -/
def chMk (k:Nat) (t:Nm × Nm × Nm × Nm) (u:(List Int × Nat × Nat × Nat × List UInt8) × List UInt8 × Bool):Chg × List UInt8 × Bool :=
 (⟨k,t.1,t.2.1,t.2.2.1,t.2.2.2,u.1.1,u.1.2.1,u.1.2.2.1,u.1.2.2.2.1,u.1.2.2.2.2⟩,u.2)
/-- A change read out of bytes. -/
def chRead (p:List UInt8):Chg × List UInt8 × Bool :=
 chMk (numL p false).1 (txt4 (numL p false).2.1 (numL p false).2.2).1 (tailL (txt4 (numL p false).2.1 (numL p false).2.2).2.1 (txt4 (numL p false).2.1 (numL p false).2.2).2.2)
theorem chRead_eq {p:List UInt8} {a:Nat × List UInt8 × Bool} {t:(Nm × Nm × Nm × Nm) × List UInt8 × Bool} {u:(List Int × Nat × Nat × Nat × List UInt8) × List UInt8 × Bool} (ha:numL p false = a) (ht:txt4 a.2.1 a.2.2 = t) (hu:tailL t.2.1 t.2.2 = u):chRead p = chMk a.1 t.1 u:=by
 subst ha; subst ht; subst hu; rfl
def chDecOk (p:List UInt8):Bool:=(!(chRead p).2.2 && (chRead p).2.1.isEmpty) && chgOk (chRead p).1
/-- A user: the pass, and boxes by names. A state: the next validity, and users by names. -/
structure Usr where
 pass:Nm
 bx:List (Nm × Bx)
structure Stt where
 next:Int
 us:List (Nm × Usr)
def inboxN:Nm:=[105,110,98,111,120]
def mailN:Nm:=[109,97,105,108]
def newB (s:Nm) (v:Int):Bx:=⟨⟨s.toArray⟩,v,1,[]⟩
def Stt.zero:Stt:=⟨1,[]⟩
/-- A user's boxes turned. -/
def Stt.turn (T:Stt) (s:Nm) (u:Usr) (l:List (Nm × Bx)):Stt:={ T with us:=tLay T.us s { u with bx:=l } }
/-- Messages that are in another box, too. -/
def copyL (uids:List Int):List Msg → Bx → Nat → Int × Nat × Bx
 | [],b,n => (0,n,b)
 | m :: L,b,n => if m.uid ∈ uids then (if (addB b m.flags m.date m.body).2.2 ≠ 0 then ((addB b m.flags m.date m.body).2.2,0,b) else copyL uids L (addB b m.flags m.date m.body).1 (n + 1)) else copyL uids L b n
def plAdd (T:Stt) (c:Chg):Int × Int × Stt :=
 if (tLook T.us c.user).isSome then (8,0,T) else if 4 ≤ T.us.length then (6,0,T) else if 1048576 ≤ T.next then (10,0,T)
 else (0,0,⟨T.next + 1,tLay T.us c.user ⟨c.pass,[(inboxN,newB inboxN T.next)]⟩⟩)
def plCreate (T:Stt) (c:Chg) (u:Usr):Int × Int × Stt :=
 if (tLook u.bx c.box).isSome then (8,0,T) else if 4 ≤ u.bx.length then (6,0,T) else if 1048576 ≤ T.next then (10,0,T)
 else (0,0,{ T.turn c.user u (tLay u.bx c.box (newB c.box T.next)) with next:=T.next + 1 })
def plRename (T:Stt) (c:Chg) (u:Usr) (b:Bx):Int × Int × Stt :=
 if c.box = inboxN then (11,0,T) else if (tLook u.bx c.to).isSome then (8,0,T)
 else (0,0,T.turn c.user u (tLay (tGone u.bx c.box) c.to { b with name:=⟨c.to.toArray⟩ }))
def plKeep (T:Stt) (s:Nm) (u:Usr) (t:Nm) (b:Bx) (n e:Int):Int × Int × Stt:=if e ≠ 0 then (e,0,T) else (0,n,T.turn s u (tLay u.bx t b))
def plCopy (T:Stt) (c:Chg) (u:Usr) (b:Bx):Int × Int × Stt :=
 match tLook u.bx c.to with
 | none => (7,0,T)
 | some d => plKeep T c.user u c.to (copyL c.uids b.L d 0).2.2 (copyL c.uids b.L d 0).2.1 (copyL c.uids b.L d 0).1
def plBox (T:Stt) (c:Chg) (u:Usr) (b:Bx):Int × Int × Stt :=
 if c.kind = 3 then (if c.box = inboxN then (11,0,T) else (0,0,T.turn c.user u (tGone u.bx c.box)))
 else if c.kind = 4 then plRename T c u b
 else if c.kind = 5 then plKeep T c.user u c.box (addB b c.flags c.date c.body).1 (addB b c.flags c.date c.body).2.1 (addB b c.flags c.date c.body).2.2
 else if c.kind = 6 then plKeep T c.user u c.box { b with L:=b.L.map (mk1 c.uids c.mode c.flags) } (markN c.uids c.mode c.flags b.L) 0
 else if c.kind = 7 then plKeep T c.user u c.box { b with L:=stayB c.uids b.L } (goneB c.uids b.L).length 0
 else plCopy T c u b
/-- What a change that may be would do: the error, what it tells, the state behind it. -/
def plan (T:Stt) (c:Chg):Int × Int × Stt :=
 if c.kind = 1 then plAdd T c else
 match tLook T.us c.user with
 | none => (7,0,T)
 | some u => if c.kind = 2 then plCreate T c u else match tLook u.bx c.box with
  | none => (7,0,T)
  | some b => plBox T c u b
/-- A state's bytes. -/
def imgU (x:Nm × Usr):List UInt8:=rowsB [x.1,x.2.pass] ++ numsB [(x.2.bx.length:Int)] ++ x.2.bx.flatMap fun y => rowB (encX y.2)
def imgS (T:Stt):List UInt8:=numsB [T.next,(T.us.length:Int)] ++ T.us.flatMap imgU
theorem uidL_enc:∀ (L acc:List Int) (rest:List UInt8),(∀ n ∈ L,0 ≤ n ∧ n ≤ 4611686018427387904) → uidL L.length (numsB L ++ rest) false acc = (acc ++ L,rest,false)
 | [],acc,rest,_ => by simp [uidL,numsB]
 | n :: L,acc,rest,h => by
  have h1:=h n (List.mem_cons_self ..)
  have e:numsB (n :: L) ++ rest = numB (clampN n) ++ (numsB L ++ rest):=by simp [numsB]
  rw [e,List.length_cons]
  simp only [uidL]
  rw [if_neg (by decide),numL_numB _ _ _ (clampN_le _)]
  simp only
  rw [clamp_of h1.1 h1.2,uidL_enc L (acc ++ [n]) rest fun x hx => h x (List.mem_cons_of_mem _ hx)]
  simp
theorem riseU_all {l:List Int}:∀ {i:Nat},riseU l i = true → ∀ j < i,stepU l j = true
 | 0,_,j,hj => by omega
 | i + 1,h,j,hj => by
  simp only [riseU,Bool.and_eq_true] at h
  by_cases hji:j < i
  ·exact riseU_all h.1 j hji
  ·obtain rfl:j = i:=by omega
   exact h.2
theorem uidsOk_all {l:List Int} (h:uidsOk l = true):(∀ n ∈ l,1 ≤ n ∧ n ≤ 1048576) ∧ l.length ≤ 24:=by
 simp only [uidsOk,Bool.and_eq_true,decide_eq_true_eq] at h
 refine ⟨fun n hn => ?_,h.2⟩
 obtain ⟨j,hj,rfl⟩:=List.getElem_of_mem hn
 have:=riseU_all h.1 j hj
 simp only [stepU,Bool.and_eq_true,okF,decide_eq_true_eq,List.getD_eq_getElem?_getD,List.getElem?_eq_getElem hj,Option.getD_some] at this
 exact this.1
theorem nmOk_len {s:Nm} (h:nmOk s = true):1 ≤ s.length ∧ s.length ≤ 12:=by
 simp only [nmOk,nameOk,Bool.and_eq_true,decide_eq_true_eq] at h
 have e:(⟨s.toArray⟩:ByteArray).size = s.length:=by simp [ByteArray.size]
 omega
theorem passOk_len {s:Nm} (h:passOk s = true):1 ≤ s.length ∧ s.length ≤ 12:=by
 simp only [passOk,Bool.and_eq_true,decide_eq_true_eq] at h
 exact ⟨h.1,h.2.1⟩
/-- What a change that may be is like. -/
structure Chg.Ok (c:Chg):Prop where
 kind:1 ≤ c.kind ∧ c.kind ≤ 8
 user:c.user.length ≤ 12
 pass:c.pass.length ≤ 12
 box:c.box.length ≤ 12
 to:c.to.length ≤ 12
 uids:(∀ n ∈ c.uids,1 ≤ n ∧ n ≤ 1048576) ∧ c.uids.length ≤ 24
 mode:0 ≤ c.mode ∧ c.mode ≤ 2
 flags:0 ≤ c.flags ∧ c.flags ≤ 31
 date:0 ≤ c.date ∧ c.date ≤ 1073741824
 body:c.body.length ≤ 1200
theorem chgOk_ok {c:Chg} (h:chgOk c = true):c.Ok:=by
 simp only [chgOk,namedOk,Bool.and_eq_true,decide_eq_true_eq] at h
 obtain ⟨h1,h2,h3,h4,⟨h5,h6,_⟩,h7,h8,h9,h10,h11⟩:=h
 simp only [okF,Bool.and_eq_true,decide_eq_true_eq] at h1 h8 h9 h10
 refine ⟨h1,(nmOk_len h2).2,?_,?_,?_,uidsOk_all h7,h8,h9,h10,h11⟩
 ·split at h3
  ·exact (passOk_len h3).2
  ·rename_i hk
   rw [if_neg hk] at h5
   rw [of_decide_eq_true h5]; simp
 ·split at h3
  ·rename_i hk
   rw [if_pos hk] at h5
   rw [of_decide_eq_true h5]; simp
  ·exact (nmOk_len h3).2
 ·cases ht:toK c.kind with
  | true =>
   rw [ht] at h4
   exact (nmOk_len (by simpa using h4)).2
  | false =>
   rw [ht] at h6
   have h6:c.to = []:=by simpa using h6
   rw [h6]; simp
theorem txt4_enc (a b c d rest:List UInt8) (ha:a.length ≤ 4611686018427387904) (hb:b.length ≤ 4611686018427387904) (hc:c.length ≤ 4611686018427387904) (hd:d.length ≤ 4611686018427387904):txt4 (rowsB [a,b,c,d] ++ rest) false = ((a,b,c,d),rest,false):=by
 have e:rowsB [a,b,c,d] ++ rest = rowB a ++ (rowB b ++ (rowB c ++ (rowB d ++ rest))):=by simp [rowsB]
 unfold txt4
 rw [e,bytL_rowB _ _ ha]
 simp only
 rw [bytL_rowB _ _ hb]
 simp only
 rw [bytL_rowB _ _ hc]
 simp only
 rw [bytL_rowB _ _ hd]
theorem nm3_enc (a b c:Int) (rest:List UInt8):nm3 (numsB [a,b,c] ++ rest) false = (clampN c,rest,false) ∧ (nm2 (numsB [a,b,c] ++ rest) false).1 = clampN b ∧ (numL (numsB [a,b,c] ++ rest) false).1 = clampN a:=by
 have e:numsB [a,b,c] ++ rest = numB (clampN a) ++ (numB (clampN b) ++ (numB (clampN c) ++ rest)):=by simp [numsB]
 have e1:numL (numsB [a,b,c] ++ rest) false = (clampN a,numB (clampN b) ++ (numB (clampN c) ++ rest),false):=by rw [e]; exact numL_numB _ _ _ (clampN_le _)
 have e2:nm2 (numsB [a,b,c] ++ rest) false = (clampN b,numB (clampN c) ++ rest,false):=by unfold nm2; rw [e1]; exact numL_numB _ _ _ (clampN_le _)
 have e3:nm3 (numsB [a,b,c] ++ rest) false = (clampN c,rest,false):=by unfold nm3; rw [e2]; exact numL_numB _ _ _ (clampN_le _)
 exact ⟨e3,by rw [e2],by rw [e1]⟩
theorem chRead_enc {c:Chg} (h:c.Ok) (rest:List UInt8):chRead (encC c ++ rest) = (c,rest,false):=by
 have hk:=h.kind; have hm:=h.mode; have hf:=h.flags; have hd:=h.date; have hu:=h.uids
 have e:encC c ++ rest = numB (clampN c.kind) ++ (rowsB [c.user,c.pass,c.box,c.to] ++ (numB (clampN (c.uids.length:Int)) ++ (numsB c.uids ++ (numsB [c.mode,c.flags,c.date] ++ (rowB c.body ++ rest))))):=by
  simp [encC,numsB,rowsB]
 have e1:=numL_numB (clampN c.kind) (rowsB [c.user,c.pass,c.box,c.to] ++ (numB (clampN (c.uids.length:Int)) ++ (numsB c.uids ++ (numsB [c.mode,c.flags,c.date] ++ (rowB c.body ++ rest))))) false (clampN_le _)
 have e2:=txt4_enc c.user c.pass c.box c.to (numB (clampN (c.uids.length:Int)) ++ (numsB c.uids ++ (numsB [c.mode,c.flags,c.date] ++ (rowB c.body ++ rest)))) (by have:=h.user; omega) (by have:=h.pass; omega) (by have:=h.box; omega) (by have:=h.to; omega)
 have e3:=numL_numB (clampN (c.uids.length:Int)) (numsB c.uids ++ (numsB [c.mode,c.flags,c.date] ++ (rowB c.body ++ rest))) false (clampN_le _)
 have hcl:clampN (c.uids.length:Int) = c.uids.length:=by unfold clampN; omega
 rw [hcl] at e e1 e2 e3
 have e4:=uidL_enc c.uids [] (numsB [c.mode,c.flags,c.date] ++ (rowB c.body ++ rest)) fun n hn => by have:=hu.1 n hn; omega
 have e5:=nm3_enc c.mode c.flags c.date (rowB c.body ++ rest)
 have e6:bytL (rowB c.body ++ rest) false = (c.body,rest,false):=bytL_rowB _ _ (by have:=h.body; omega)
 rw [e,chRead_eq e1 e2 ((tailL_eq e3).trans (tailN_eq e4 e5.2.2 e5.2.1 e5.1 e6))]
 unfold chMk tailMk
 simp only
 rw [clamp_of (by omega) (by omega),clamp_of (by omega) (by omega),clamp_of (by omega) (by omega),clamp_of (by omega) (by omega),List.nil_append]
theorem chDec_enc {c:Chg} (h:chgOk c = true):chRead (encC c) = (c,[],false) ∧ chDecOk (encC c) = true:=by
 have e:=chRead_enc (chgOk_ok h) []
 rw [List.append_nil] at e
 refine ⟨e,?_⟩
 unfold chDecOk
 rw [e,h]
 rfl
def badR (x:Nat):Bool:=decide (x < 33) || decide (126 < x)
theorem idx_pass (s:ByteArray):∀ (f pos:Nat),s.size ≤ pos + f → (Lib.idxFuncFrom badR true s f pos < 0 ↔ ∀ j,pos ≤ j → (h:j < s.size) → passB (s[j]'h) = true)
 | 0,pos,hf => by
  unfold Lib.idxFuncFrom
  exact ⟨fun _ j h1 h2 => by omega,fun _ => by decide⟩
 | f + 1,pos,hf => by
  unfold Lib.idxFuncFrom
  by_cases hp:pos < s.size
  ·rw [if_pos hp]
   by_cases ha:(s[pos]'hp).toNat < 128
   ·have hd:=Go.decode_ascii s pos hp ha
    rw [hd]
    simp only
    by_cases hb:badR (s[pos]'hp).toNat = true
    ·rw [if_pos hb]
     refine ⟨fun h => by omega,fun h => ?_⟩
     have:=h pos (Nat.le_refl _) hp
     simp only [passB,badR,Bool.and_eq_true,Bool.or_eq_true,decide_eq_true_eq] at this hb
     omega
    ·rw [if_neg hb]
     rw [idx_pass s f (pos + 1) (by omega)]
     refine ⟨fun h j h1 h2 => ?_,fun h j h1 h2 => h j (by omega) h2⟩
     by_cases hj:j = pos
     ·subst hj
      simp only [passB,badR,Bool.and_eq_true,Bool.or_eq_true,decide_eq_true_eq,not_or] at hb ⊢
      omega
     ·exact h j (by omega) h2
   ·have hd:=Go.decode_high s pos hp (by omega)
    have hb:badR (Utf8.decode s pos).1 = true:=by
     simp only [badR,Bool.or_eq_true,decide_eq_true_eq]
     omega
    rw [if_pos hb]
    refine ⟨fun h => by omega,fun h => ?_⟩
    have:=h pos (Nat.le_refl _) hp
    simp only [passB,Bool.and_eq_true,decide_eq_true_eq] at this
    omega
  ·rw [if_neg hp]
   exact ⟨fun _ j h1 h2 => by omega,fun _ => by decide⟩
theorem idx_all (l:Nm):decide (Lib.idxFunc badR true ⟨l.toArray⟩ < 0) = l.all passB:=by
 rw [Bool.eq_iff_iff,decide_eq_true_iff,List.all_eq_true]
 unfold Lib.idxFunc
 rw [idx_pass _ _ 0 (by omega)]
 have hs:(⟨l.toArray⟩:ByteArray).size = l.length:=by simp [ByteArray.size]
 constructor
 ·intro h x hx
  obtain ⟨j,hj,rfl⟩:=List.getElem_of_mem hx
  exact h j (Nat.zero_le _) (by rw [hs]; exact hj)
 ·intro h j _ hj
  exact h _ (List.getElem_mem (by rw [← hs]; exact hj))
theorem pass1_spec (x:Nat) (w:World) (hx:x ≤ 1114111):Cal Tryz.prog 140 #[.int .i32 x] w fun v w' => v = .bool (badR x) ∧ w' = w:=by
 refine enter Tryz.mixed Tryz.func140 rfl (by kernel_rfl) ?_
 unfold badR
 by_cases h1:x < 33
 ·have h1':(x:Int) < 33:=by omega
  simp -dsimp [go_sem,h1,h1']
 ·have h1':¬ (x:Int) < 33:=by omega
  by_cases h2:126 < x
  ·have h2':(126:Int) < (x:Int):=by omega
   simp -dsimp [go_sem,h1,h1',h2,h2']
  ·have h2':¬ (126:Int) < (x:Int):=by omega
   simp -dsimp [go_sem,h1,h1',h2,h2']
theorem idxf_spec (l:Nm) (w:World):Cal Tryz.prog 139 #[str l,.func (.func 140) #[] #[]] w fun v w' => v = i64 (Lib.idxFunc badR true ⟨l.toArray⟩) ∧ Nw w w':=by
 have hp:PredAtRunes Tryz.prog 140 #[] badR w:=fun W x hx _ => by
  refine Calls.mono (pass1_spec x W hx) ?_
  rintro e w' ⟨v,rfl,rfl,rfl⟩
  exact ⟨rfl,0,rfl⟩
 have h:=Go.Proofs.Any.strings_IndexFunc_runes Tryz.idxf139 140 #[] (enters_of Tryz.func140 (by kernel_rfl) rfl) badR ⟨l.toArray⟩ w hp
 refine Calls.mono h ?_
 rintro e w' ⟨rfl,b1,b2,b3,b4,b5⟩
 exact ⟨_,rfl,rfl,⟨b1,b2,b3,b4,fun k hk _ => b5 k hk⟩⟩
theorem pass_spec (l:Nm) (w:World) (hl:l.length ≤ 9223372036854775807):Cal Tryz.prog 76 #[str l] w fun v w' => v = .bool (passOk l) ∧ Nw w w':=by
 have hx:=idx_all l
 have hidx:=idxf_spec l w
 refine enter Tryz.mixed Tryz.func76 rfl (by kernel_rfl) ?_
 by_cases h0:l.length = 0
 ·have hs:l = []:=List.eq_nil_of_length_eq_zero h0
  subst hs
  simp -dsimp [go_sem]
  exact ⟨by rfl,Kp.refl _ _⟩
 ·have hne:l.isEmpty = false:=by cases l <;> simp_all
  have hnn:¬ l = []:=fun e => by subst e; exact h0 rfl
  by_cases h12:l.length ≤ 12
  ·have h12':(l.length:Int) ≤ 12:=by omega
   have hr:passOk l = l.all passB:=by unfold passOk; rw [decide_eq_true h12,decide_eq_true (show 1 ≤ l.length by omega)]; rfl
   simp -dsimp [go_sem,hne,hnn,h12,h12']
   refine call hidx ?_
   rintro v w1 ⟨rfl,k1⟩
   rw [hr,← hx]
   generalize Lib.idxFunc badR true ⟨l.toArray⟩ = k at *
   simp -dsimp [go_sem]
   exact k1
  ·have h12':¬ (l.length:Int) ≤ 12:=by omega
   have hr:passOk l = false:=by unfold passOk; rw [decide_eq_false h12]; simp
   simp -dsimp [go_sem,hne,hnn,h12,h12']
   exact ⟨hr,Kp.refl _ _⟩
theorem sin_spec (n lo hi:Int) (w:World):Cal Tryz.prog 77 #[i64 n,i64 lo,i64 hi] w fun v w' => v = .bool (okF n lo hi) ∧ w' = w:=by
 refine enter Tryz.mixed Tryz.func77 rfl (by kernel_rfl) ?_
 by_cases h1:lo ≤ n
 ·simp -dsimp [go_sem,h1,okF]
 ·simp -dsimp [go_sem,h1,okF]
theorem applyF_ok {mode old flags:Int} (hm:0 ≤ mode ∧ mode ≤ 2) (ho:0 ≤ old ∧ old ≤ 31) (hf:0 ≤ flags ∧ flags ≤ 31):0 ≤ applyF mode old flags ∧ applyF mode old flags ≤ 31:=by
 have h:((List.range 3).all fun m => (List.range 32).all fun o => (List.range 32).all fun f => decide (0 ≤ applyF (m:Int) (o:Int) (f:Int)) && decide (applyF (m:Int) (o:Int) (f:Int) ≤ 31)) = true:=by decide +kernel
 have h1:=List.all_eq_true.1 h mode.toNat (List.mem_range.2 (by omega))
 have h2:=List.all_eq_true.1 h1 old.toNat (List.mem_range.2 (by omega))
 have h3:=List.all_eq_true.1 h2 flags.toNat (List.mem_range.2 (by omega))
 rw [show ((mode.toNat:Nat):Int) = mode by omega,show ((old.toNat:Nat):Int) = old by omega,show ((flags.toNat:Nat):Int) = flags by omega] at h3
 simpa using h3
theorem mk1_uid (uids:List Int) (mode flags:Int) (m:Msg):(mk1 uids mode flags m).uid = m.uid ∧ (mk1 uids mode flags m).date = m.date ∧ (mk1 uids mode flags m).body = m.body:=by
 unfold mk1
 split <;> exact ⟨rfl,rfl,rfl⟩
theorem IsB.mark {b:Bx} (h:IsB b) (uids:List Int) {mode flags:Int} (hm:0 ≤ mode ∧ mode ≤ 2) (hf:0 ≤ flags ∧ flags ≤ 31):IsB { b with L:=b.L.map (mk1 uids mode flags) }:=by
 obtain ⟨h1,h2,h3,h4,h5⟩:=h
 refine ⟨by simpa using h1,fun m hm' => ?_,?_,h4,h5⟩
 ·obtain ⟨x,hx,rfl⟩:=List.mem_map.1 hm'
  obtain ⟨a,b,c,d,e⟩:=h2 x hx
  obtain ⟨e1,e2,e3⟩:=mk1_uid uids mode flags x
  rw [e1,e2,e3]
  refine ⟨a,b,?_,d,e⟩
  unfold mk1
  split
  ·simp only [okF,Bool.and_eq_true,decide_eq_true_eq] at c ⊢
   exact applyF_ok hm c hf
  ·exact c
 ·rw [List.pairwise_map]
  exact h3.imp fun {a b} hab => by rw [(mk1_uid uids mode flags a).1,(mk1_uid uids mode flags b).1]; exact hab
theorem isB_name {b:Bx} (h:isB b = true):nameOk b.name = true:=by
 simp only [isB,Bool.and_eq_true] at h
 exact h.1.1.2
structure Usr.Ok (u:Usr):Prop where
 pass:passOk u.pass = true
 srt:Srt u.bx
 len:u.bx.length ≤ 4
 inb:(tLook u.bx inboxN).isSome = true
 bx:∀ n b,tLook u.bx n = some b → b.name = ⟨n.toArray⟩ ∧ isB b = true
structure Stt.Ok (T:Stt):Prop where
 srt:Srt T.us
 len:T.us.length ≤ 4
 next:1 ≤ T.next ∧ T.next ≤ 1048576
 us:∀ s u,tLook T.us s = some u → nmOk s = true ∧ u.Ok
theorem Stt.Ok.zero:Stt.zero.Ok:=⟨Srt.nil,by simp [Stt.zero],by simp [Stt.zero],fun s u h => by cases h⟩
theorem nmB {n:Nm} {b:Bx} (h:b.name = ⟨n.toArray⟩) (hi:isB b = true):nmOk n = true:=by
 unfold nmOk
 rw [← h]
 exact isB_name hi
/-- A user's boxes, one of them laid. -/
theorem Usr.Ok.lay {u:Usr} (h:u.Ok) {n:Nm} {b:Bx} (hn:b.name = ⟨n.toArray⟩) (hb:isB b = true) (hl:(tLook u.bx n).isSome = true ∨ u.bx.length < 4):Usr.Ok { u with bx:=tLay u.bx n b }:=by
 refine ⟨h.pass,h.srt.tLay n b,?_,?_,fun m d hd => ?_⟩
 ·have:=h.len
  show (tLay u.bx n b).length ≤ 4
  rw [lay_len h.srt]
  split
  ·omega
  ·rename_i hx
   rcases hl with hl | hl
   ·exact absurd hl hx
   ·omega
 ·show (tLook (tLay u.bx n b) inboxN).isSome = true
  rw [tLook_lay]
  split
  ·rfl
  ·exact h.inb
 ·have hd:tLook (tLay u.bx n b) m = some d:=hd
  rw [tLook_lay] at hd
  split at hd
  ·rename_i e
   cases hd
   subst e
   exact ⟨hn,hb⟩
  ·exact h.bx m d hd
theorem Usr.Ok.gone {u:Usr} (h:u.Ok) {n:Nm} (hn:n ≠ inboxN):Usr.Ok { u with bx:=tGone u.bx n }:=by
 refine ⟨h.pass,h.srt.tGone n,?_,?_,fun m d hd => ?_⟩
 ·have:=h.len
  show (tGone u.bx n).length ≤ 4
  rw [Go.Vc.gone_len]
  split <;> omega
 ·show (tLook (tGone u.bx n) inboxN).isSome = true
  rw [tLook_gone h.srt,if_neg (fun e => hn e.symm)]
  exact h.inb
 ·have hd:tLook (tGone u.bx n) m = some d:=hd
  rw [tLook_gone h.srt] at hd
  split at hd
  ·cases hd
  ·exact h.bx m d hd
theorem Stt.Ok.turn {T:Stt} (h:T.Ok) {s:Nm} {u:Usr} (hu:tLook T.us s = some u) {l:List (Nm × Bx)} (hl:Usr.Ok { u with bx:=l }):(T.turn s u l).Ok:=by
 refine ⟨h.srt.tLay _ _,?_,h.next,fun t v hv => ?_⟩
 ·show (tLay T.us s _).length ≤ 4
  rw [lay_len h.srt,hu]
  exact h.len
 ·have hv:tLook (tLay T.us s { u with bx:=l }) t = some v:=hv
  rw [tLook_lay] at hv
  split at hv
  ·rename_i e
   cases hv
   subst e
   exact ⟨(h.us _ _ hu).1,hl⟩
  ·exact h.us t v hv
theorem newB_ok {n:Nm} (hn:nmOk n = true) {v:Int} (hv:1 ≤ v ∧ v ≤ 1048576):isB (newB n v) = true:=(IsB.new ⟨n.toArray⟩ v hv).is hn
theorem inbox_ok:nmOk inboxN = true:=by decide +kernel
theorem copyL_ok (uids:List Int):∀ (L:List Msg) (b:Bx) (n:Nat),isB b = true → isB (copyL uids L b n).2.2 = true ∧ (copyL uids L b n).2.2.name = b.name
 | [],b,n,h => ⟨h,rfl⟩
 | m :: L,b,n,h => by
  unfold copyL
  split
  ·split
   ·exact ⟨h,rfl⟩
   ·have h1:=addB_name b m.flags m.date m.body
    have h2:isB (addB b m.flags m.date m.body).1 = true:=((IsB.of h).add _ _ _).is (by rw [h1.1]; exact isB_name h)
    have ih:=copyL_ok uids L _ (n + 1) h2
    exact ⟨ih.1,ih.2.trans h1.1⟩
  ·exact copyL_ok uids L b n h
/-- What a change does leaves a state that may be. -/
theorem plan_ok {T:Stt} (h:T.Ok) {c:Chg} (hc:chgOk c = true):(plan T c).2.2.Ok:=by
 have hx:=chgOk_ok hc
 simp only [chgOk,Bool.and_eq_true] at hc
 obtain ⟨_,huser,hpb,hto,_⟩:=hc
 have hnx:=h.next
 unfold plan
 split
 ·rename_i hk
  rw [if_pos hk] at hpb
  unfold plAdd
  repeat' split
  ·exact h
  ·exact h
  ·exact h
  ·rename_i h1 h2 h3
   refine ⟨h.srt.tLay _ _,?_,by simp only; omega,fun t v hv => ?_⟩
   ·show (tLay T.us c.user _).length ≤ 4
    rw [lay_len h.srt,if_neg h1]; omega
   ·have hv:tLook (tLay T.us c.user ⟨c.pass,[(inboxN,newB inboxN T.next)]⟩) t = some v:=hv
    rw [tLook_lay] at hv
    split at hv
    ·rename_i e
     cases hv
     subst e
     refine ⟨huser,hpb,List.pairwise_singleton _ _,by simp,by simp [tLook],fun n b hb => ?_⟩
     simp only [tLook] at hb
     split at hb
     ·rename_i e
      cases hb
      subst e
      exact ⟨rfl,newB_ok inbox_ok hnx⟩
     ·cases hb
    ·exact h.us t v hv
 ·rename_i hk
  rw [if_neg hk] at hpb
  split
  ·exact h
  ·rename_i u hu
   have hU:=(h.us _ _ hu).2
   split
   ·unfold plCreate
    repeat' split
    ·exact h
    ·exact h
    ·exact h
    ·rename_i h1 h2 h3
     have:=h.turn hu (hU.lay (n:=c.box) (b:=newB c.box T.next) rfl (newB_ok hpb hnx) (.inr (by omega)))
     exact ⟨this.srt,this.len,by simp only; omega,this.us⟩
   ·split
    ·exact h
    ·rename_i b hb
     have hB:=hU.bx _ _ hb
     have hI:=IsB.of hB.2
     have keep:∀ (n:Nm) (b':Bx) (k e:Int),(tLook u.bx n).isSome = true → b'.name = ⟨n.toArray⟩ → isB b' = true → (plKeep T c.user u n b' k e).2.2.Ok:=fun n b' k e h1 h2 h3 => by
      unfold plKeep
      split
      ·exact h
      ·exact h.turn hu (hU.lay h2 h3 (.inl h1))
     unfold plBox
     split
     ·split
      ·exact h
      ·rename_i hin
       exact h.turn hu (hU.gone hin)
     ·split
      ·rename_i hk4
       unfold plRename
       repeat' split
       ·exact h
       ·exact h
       ·rename_i h1 h2
        have hto':nmOk c.to = true:=by
         have:toK c.kind = true:=by simp [toK,hk4]
         rw [this] at hto
         simpa using hto
        refine h.turn hu ((hU.gone h1).lay rfl (IsB.is (b:={ b with name:=⟨c.to.toArray⟩ }) ?_ hto') (.inr ?_))
        ·exact ⟨hI.1,hI.2,hI.3,hI.4,hI.5⟩
        ·show (tGone u.bx c.box).length < 4
         have:=hU.len
         have hp:=List.length_pos_of_mem (tLook_some hb)
         rw [Go.Vc.gone_len,hb]
         simp; omega
      ·split
       ·have h1:=addB_name b c.flags c.date c.body
        exact keep _ _ _ _ (by rw [hb]; rfl) (h1.1.trans hB.1) ((hI.add _ _ _).is (by rw [h1.1]; exact isB_name hB.2))
       ·split
        ·exact keep _ _ _ _ (by rw [hb]; rfl) hB.1 ((hI.mark c.uids hx.mode hx.flags).is (show nameOk b.name = true from isB_name hB.2))
        ·split
         ·exact keep _ _ _ _ (by rw [hb]; rfl) hB.1 ((hI.stay c.uids).is (show nameOk b.name = true from isB_name hB.2))
         ·unfold plCopy
          split
          ·exact h
          ·rename_i d hd
           have hD:=hU.bx _ _ hd
           have h1:=copyL_ok c.uids b.L d 0 hD.2
           exact keep _ _ _ _ (by rw [hd]; rfl) (h1.2.trans hD.1) h1.1
end Go.Proofs.YtellahclbhfdiaaGreatDoor
