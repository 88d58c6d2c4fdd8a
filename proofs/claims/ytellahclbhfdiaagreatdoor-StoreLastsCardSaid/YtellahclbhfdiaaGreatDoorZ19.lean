/-
  frame.Scan walked. By the session itself. A ledger: what its functions come to, in plain words. By the session itself. A ledger in memory; its small functions walked. By the session itself. A ledger: clears, image, takes walked. By the session itself.
-/
import Derived.Test.YtellahclbhfdiaaGreatDoorZ18
import Derived.Test.YtellahclbhfdiaaGreatDoorZ12
namespace Go.Proofs.YtellahclbhfdiaaGreatDoor
set_option linter.unusedSimpArgs false
set_option linter.unusedVariables false
set_option maxRecDepth 100000
open Go.Vc Go.RowKit
theorem scan_spec (b:List UInt8) (A:Option Addr) (c:Nat) (w:World) (hr:Rd w A (b.map u8)) (hc:b.length ≤ c) (hl:b.length ≤ 1000000000000) :
  Cal Tryz.prog 168 #[.slice A b.length c] w fun v w' => Nw w w' ∧ ∃ u,v = .tuple #[u,i64 (scanL (b.length + 1) b).2] ∧ Rs w' u (scanL (b.length + 1) b).1 w.heap.size:=by
 refine enter Tryz.mixed Tryz.func168 rfl (by kernel_rfl) ?_
 simp -dsimp [go_sem]
 obtain ⟨L,hL⟩:∃ L,L = b.length:=⟨_,rfl⟩
 rw [← hL] at hc hl ⊢
 refine loop [4,5,6,7,8,9,10,11,12,13,14,15,16,17,18,19,20,21,22,23,24,25,26,27,28,29] (by kernel_rfl)
  (fun f w' => Box2 (fun x y w' => ∃ (m k:Nat) (ps:List (List UInt8)) (vs:List Value) (F:Nat → Prop),y = i64 m ∧ m ≤ L ∧ L - m < k ∧ 12 * ps.length ≤ m ∧ (scanL (L + 1) b).1 = ps ++ (scanL k (b.drop m)).1 ∧ (scanL (L + 1) b).2 = m + (scanL k (b.drop m)).2 ∧ Gf w' 23 1 x ps.length vs F ∧ RV w' vs ps (fun k => F k ∨ k < w.heap.size) ∧ Nf w F ∧ Nw w w') (f 4) (f 5) w')
  (fun f _ => L - (intOf (f 5)).toNat) ⟨0,L + 1,[],[],fun _ => False,rfl,Nat.zero_le _,by omega,by simp,by simp,by simp,Gf.nil _ _ _,RV.nil _ _,fun _ h => h.elim,Kp.refl _ _⟩ ?_
 rintro f w' ⟨m,k,ps,vs,F,f5,hm,hk,hps,hs1,hs2,hG,hV,nF,hK⟩
 have hdl:(b.drop m).length = L - m:=by rw [List.length_drop,hL]
 obtain ⟨k,rfl⟩:∃ k',k = k' + 1:=⟨k - 1,by omega⟩
 simp -dsimp [go_sem,f5]
 refine cond_d (fun hlt => ?_) (fun hlt => ?_)
 ·have hlt:m < L:=by omega
  have hmc:m ≤ c:=by omega
  have hmL:m ≤ L:=by omega
  have hmL':(m:Int) ≤ (L:Int):=by omega
  have hne:¬ (b.drop m).length = 0:=by omega
  have hd:=decode_spec (b.drop m) (cutA A c m) (c - m) w' (by rw [List.map_drop]; exact (hr.nw hK).cut (by simp; omega) m) (by omega) (by omega)
  rw [hdl] at hd
  simp -dsimp [go_sem,f5,hmc,hmL,hmL']
  refine call hd ?_
  rintro v w1 ⟨hk1,u,rfl,hB⟩
  have hle:=decL_le (b.drop m)
  obtain ⟨p,hp⟩:∃ p,p = (decL (b.drop m)).1:=⟨_,rfl⟩
  obtain ⟨n,hn⟩:∃ n,n = (decL (b.drop m)).2.1:=⟨_,rfl⟩
  obtain ⟨e,he⟩:∃ e,e = (decL (b.drop m)).2.2:=⟨_,rfl⟩
  rw [← hp] at hB
  rw [← hn,← he] at hle ⊢
  rw [hdl] at hle
  have es:scanL (k + 1) (b.drop m) = if e = 0 then (p :: (scanL k ((b.drop m).drop n)).1,n + (scanL k ((b.drop m).drop n)).2) else ([],0):=by
   simp only [scanL]
   rw [if_neg hne,← hp,← hn,← he]
  have k1:Nw w w1:=hK.nw hk1
  by_cases h0:e = 0
  ·subst h0
   have hle2:=hle.2 rfl
   have hnd:=List.drop_drop (i:=n) (j:=m) (l:=b)
   rw [if_pos rfl,hnd] at es
   rw [es] at hs1 hs2
   obtain ⟨A1,c1,rfl,ho1,hA1⟩:=hB
   simp -dsimp [go_sem]
   have hG1:=hG.nw hk1
   have hV1:=hV.nw hk1
   have ka:Nw w1 (w1.alloc (.cells #[.slice A1 p.length c1] 23)):=(Kp.refl _ _).alloc _
   refine gf_app Tryz.Srows (hG1.nw ka) (Rd.fresh (xs:=[.slice A1 p.length c1]) rfl rfl) (m:=1) (by simp) (by simp [Value.oneCell']) (by omega) (by omega) ?_
   intro v2 w2 F2 hG2 hGr hK2
   have hoff:Off A1 (fun k => F k ∨ k < w.heap.size):=fun a ha hf => by
    have:=hA1 a ha
    have:=hK.size
    rcases hf with hf | hf
    ·have:=hG.lt _ hf
     omega
    ·omega
   have hV2:RV w2 (vs ++ [.slice A1 p.length c1]) (ps ++ [p]) (fun k => F2 k ∨ k < w.heap.size):=((hV1.nw ka).append (RV.one (ho1.rd.nw ka) (hoff.l _) ho1.2.1)).gr (hK2.mono fun _ _ h => .inl h) fun i hi => hi.elim (fun e => (hGr i e).imp .inl id) fun e => .inl (.inr e)
   have w3':IntKind.i64.wrap ((m:Int) + (n:Int)) = ((m + n:Nat):Int):=w64 (by omega) (by omega)
   obtain ⟨m2,hm2⟩:∃ m2,m2 = m + n:=⟨_,rfl⟩
   rw [← hm2] at w3' hs1 hs2
   simp -dsimp [go_sem,f5,w3']
   refine ⟨⟨m2,k,ps ++ [p],_,F2,rfl,by omega,by omega,by simp; omega,?_,by omega,by simpa using hG2,hV2,nF.gr hGr (k1.alloc (.cells #[.slice A1 p.length c1] 23)).size,(k1.alloc _).at_ hK2 nF⟩,by simp [intOf]; omega⟩
   rw [hs1]
   simp
  ·have h0':((e:Int) != 0) = true:=by simp; omega
   rw [if_neg h0] at es
   rw [es] at hs1 hs2
   simp -dsimp [go_sem,h0']
   rw [hs1,hs2]
   exact ⟨k1,f 4,⟨rfl,f5⟩,vs,F,by simpa using hG.nw hk1,by simpa using hV.nw hk1,nF⟩
 ·obtain rfl:m = L:=by omega
  have e0:(scanL (k + 1) (b.drop m)) = ([],0):=by
   simp only [scanL]
   rw [if_pos (by omega)]
  rw [e0] at hs1 hs2
  simp -dsimp [go_sem]
  rw [hs1,hs2]
  exact ⟨hK,f 4,⟨rfl,f5⟩,vs,F,by simpa using hG,by simpa using hV,nF⟩
theorem scanL_len':∀ (k:Nat) (b:List UInt8),(scanL k b).1.length ≤ b.length ∧ ∀ p ∈ (scanL k b).1,p.length ≤ b.length
 | 0,b => by simp [scanL]
 | k + 1,b => by
  simp only [scanL]
  split
  ·simp
  ·split
   ·rename_i h0 h1
    have h2:=decL_le b
    have h3:=h2.2 h1
    obtain ⟨h4,h5⟩:=scanL_len' k (b.drop (decL b).2.1)
    rw [List.length_drop] at h4 h5
    refine ⟨by simp; omega,fun p hp => ?_⟩
    rcases List.mem_cons.1 hp with rfl | hp
    ·exact decL_len b
    ·have:=h5 p hp; omega
   ·simp
/-- Rows that lie in memory new since B: what was there before, and what comes behind, may turn. -/
theorem Rs.brs2 {w:World} {v:Value} {ps:List (List UInt8)} {B:Nat} (h:Rs w v ps B):∃ A c,v = .slice A ps.length c ∧ Brs w A ps (fun k => k < B ∨ w.heap.size ≤ k) ∧ ps.length ≤ c:=by
 obtain ⟨vs,F,⟨A,c,rfl,ho,h1,h2⟩,hV,h3⟩:=h
 refine ⟨A,c,rfl,⟨vs,hV.1,ho.rd,fun a ha _ hs => ?_,fun i hi => ?_⟩,ho.2.1⟩
 ·have h4:=h1 a.block (by rw [ha]; rfl)
  have h5:=h3 _ h4
  have h6:=h2 _ h4
  rcases hs with hs | hs <;> omega
 ·obtain ⟨X,d,e,hr,hof,hd⟩:=hV.2 i hi
  refine ⟨X,d,e,hr,fun a ha hx hs => ?_,hd⟩
  rcases hs with hs | hs
  ·exact hof a ha hx (.inr hs)
  ·exact (hr.ofl (S:=fun k => w.heap.size ≤ k) fun _ h => h) a ha hx hs
set_option maxHeartbeats 1000000
/-- The names of a ledger's files. -/
def imgN (p:Nm):Nm:=p ++ [45,105,109,103]
def logN (p:Nm):Nm:=p ++ [45,108,111,103]
/-- A ledger: the image's number and bytes, the entries behind it, and whether an error of the disk has ended it. -/
structure Led where
 base:Nat
 data:List UInt8
 ents:List (List UInt8)
 dead:Bool
def Led.last (L:Led):Nat:=L.base + L.ents.length
theorem kLoad_len {D:Dsk} (ok:D.Ok) (s:Nm):(kLoad D s).1.length ≤ 1073741824:=by
 have h1:=dRead_len ok s
 have h2:=oneL_len (dRead D s).1
 unfold kLoad
 split
 ·simp
 ·split
  ·simp
  ·simp only; omega
/-- Files taken away that are there. -/
def rmvs:Dsk → List Nm → Dsk × Nat
 | D,[] => (D,0)
 | D,s :: r => if (kW1 D s).2 ≠ 0 then kW1 D s else rmvs (kW1 D s).1 r
/-- A number and a row, and nothing behind them: whether it is that, the number, the row. -/
def numRow (b:List UInt8):Bool × Nat × List UInt8 :=
 (!(bytL (numL b false).2.1 (numL b false).2.2).2.2 && (bytL (numL b false).2.1 (numL b false).2.2).2.1.isEmpty,(numL b false).1,(bytL (numL b false).2.1 (numL b false).2.2).1)
/-- The image: its number, its bytes, an error. -/
def imgL (D:Dsk) (p:Nm):Nat × List UInt8 × Nat :=
 if (kLoad D (imgN p)).2 = 7 then (0,[],0) else if (kLoad D (imgN p)).2 ≠ 0 then (0,[],(kLoad D (imgN p)).2) else
  ((numRow (kLoad D (imgN p)).1).2.1,(numRow (kLoad D (imgN p)).1).2.2,if (numRow (kLoad D (imgN p)).1).1 = false ∨ 1099511627776 < (numRow (kLoad D (imgN p)).1).2.1 then 3 else 0)
/-- A record taken in: the last number (-1: none), the entries. -/
def takeP (base:Nat) (last:Int) (es:List (List UInt8)) (p:List UInt8):Option (Int × List (List UInt8)) :=
 if (numRow p).1 = false ∨ (numRow p).2.1 < 1 ∨ 1099511627776 < (numRow p).2.1 ∨ (0 ≤ last ∧ ((numRow p).2.1:Int) ≠ last + 1) then none
 else if (numRow p).2.1 ≤ base then some ((numRow p).2.1,es) else if (numRow p).2.1 ≠ base + es.length + 1 then none else some ((numRow p).2.1,es ++ [(numRow p).2.2])
def takesP (base:Nat):Int → List (List UInt8) → List (List UInt8) → Option (Int × List (List UInt8))
 | last,es,[] => some (last,es)
 | last,es,p :: r => match takeP base last es p with
  | none => none
  | some q => takesP base q.1 q.2 r
/-- A file cut off, and that synced. -/
def cutS (D:Dsk) (s:Nm) (n:Nat):Dsk × Nat:=if (dTrunc D s n).2 ≠ 0 then dTrunc D s n else dEach fSync (dTrunc D s n).1 [s]
def cutIf (D:Dsk) (s:Nm) (good len:Nat):Dsk × Nat:=if good < len then cutS D s good else (D,0)
def emptyIf (D:Dsk) (s:Nm) (es:List (List UInt8)):Dsk × Nat:=if es.length = 0 then dEach fRemove D [s] else (D,0)
def logFin (D:Dsk) (s:Nm) (good len:Nat) (es:List (List UInt8)):Dsk × Nat × List (List UInt8) :=
 if (cutIf D s good len).2 ≠ 0 then ((cutIf D s good len).1,(cutIf D s good len).2,es) else ((emptyIf (cutIf D s good len).1 s es).1,(emptyIf (cutIf D s good len).1 s es).2,es)
def logOf (D:Dsk) (s:Nm) (base:Nat) (b:List UInt8):Dsk × Nat × List (List UInt8) :=
 match takesP base (-1) [] (scanL (b.length + 1) b).1 with
 | none => (D,3,[])
 | some q => logFin D s (scanL (b.length + 1) b).2 b.length q.2
/-- The log: the disk, an error, the entries. -/
def logL (D:Dsk) (p:Nm) (base:Nat):Dsk × Nat × List (List UInt8):=match tLook D.fs (logN p) with
 | none => (D,0,[])
 | some x => logOf D (logN p) base x.b
/-- Open: the disk, an error, the ledger. -/
def opn3 (D:Dsk) (p:Nm) (i:Nat × List UInt8 × Nat):Dsk × Nat × Led :=
 if i.2.2 ≠ 0 then (D,i.2.2,⟨0,[],[],false⟩) else ((logL D p i.1).1,(logL D p i.1).2.1,⟨i.1,i.2.1,(logL D p i.1).2.2,false⟩)
def opn2 (r:Dsk × Nat) (p:Nm):Dsk × Nat × Led:=if r.2 ≠ 0 then (r.1,r.2,⟨0,[],[],false⟩) else opn3 r.1 p (imgL r.1 p)
def opn (D:Dsk) (p:Nm):Dsk × Nat × Led:=opn2 (rmvs D [shadow (imgN p)]) p
/-- What an entry is written as. -/
def entB (n:Nat) (b:List UInt8):List UInt8:=recL (numB n ++ rowB b)
def apS (r:Dsk × Nat) (s:Nm):Dsk × Nat:=if r.2 ≠ 0 then r else dEach fSync r.1 [s]
def apL (L:Led) (r:Dsk × Nat) (b:List UInt8):Dsk × Led × Nat × Nat :=
 if r.2 ≠ 0 then (r.1,{ L with dead:=true },0,r.2) else (r.1,{ L with ents:=L.ents ++ [b] },L.last + 1,0)
/-- Append: the disk, the ledger, the number, an error. -/
def lApp (D:Dsk) (p:Nm) (L:Led) (b:List UInt8):Dsk × Led × Nat × Nat :=
 if L.dead then (D,L,0,9) else if 65536 < b.length ∨ 1099511627776 ≤ L.last then (D,L,0,5) else
  apL L (apS (dAppend D (logN p) (entB (L.last + 1) b)) (logN p)) b
def wrS (r:Dsk × Nat) (s:Nm):Dsk × Nat:=if r.2 ≠ 0 then r else rmvs r.1 [s]
def wrL (L:Led) (r:Dsk × Nat) (n:Nat) (b:List UInt8):Dsk × Led × Nat :=
 if r.2 ≠ 0 then (r.1,{ L with dead:=true },r.2) else (r.1,⟨n,b,[],false⟩,0)
/-- Write: the disk, the ledger, an error. -/
def lWrite (D:Dsk) (p:Nm) (L:Led) (n:Int) (b:List UInt8):Dsk × Led × Nat :=
 if L.dead then (D,L,9) else if n < L.last ∨ 1099511627776 < n then (D,L,1) else if 524288 < b.length then (D,L,5) else
  wrL L (wrS (kSave D (imgN p) (numB n.toNat ++ rowB b)) (logN p)) n.toNat b
def lAt (L:Led) (i:Int):List UInt8 × Nat:=if i ≤ L.base ∨ (L.last:Int) < i then ([],7) else (L.ents.getD (i - L.base - 1).toNat [],0)
/-- What a ledger's numbers and rows may be. -/
structure Led.Ok (L:Led):Prop where
 last:L.base + L.ents.length ≤ 1099511627776
 data:L.data.length ≤ 1073741824
 ents:∀ e ∈ L.ents,e.length ≤ 1073741824
/-- Block l is a ledger on the disk g: its own blocks lie in G; what it reads only lies outside V. -/
def Lg (w:World) (l g:Nat) (p:Nm) (L:Led) (G V:Nat → Prop):Prop:=∃ B d A c vs,
 Blk w l 170 #[.pointer (some ⟨g,0,none⟩),str p,i64 L.base,.slice B L.data.length d,.slice A L.ents.length c,.bool L.dead] ∧
 Rd w B (L.data.map u8) ∧ Ofl B (L.data.map u8) V ∧ L.data.length ≤ d ∧ Ow w 23 1 A L.ents.length c vs ∧ RV w vs L.ents V ∧
 Off A (At l) ∧ (∀ k,k = l ∨ blk A k → G k) ∧ (∀ k,G k → V k) ∧ (∀ k,V k → k < w.heap.size)
section
variable {w w':World} {l g:Nat} {p:Nm} {L:Led} {G V V' S:Nat → Prop}
theorem Lg.step (h:Lg w l g p L G V) (k:Kp S w w') (hS:∀ i,S i → V i ∧ ¬ G i) (hG:Gr V V' w w') (hV:∀ i,V i → V' i):Lg w' l g p L G V':=by
 obtain ⟨B,d,A,c,vs,hb,hr,ho,hd,hA,hv,hAl,h1,h2,h3⟩:=h
 have hrS:Ofl B (L.data.map u8) S:=fun a ha hx hs => ho a ha hx (hS _ hs).1
 have kV:Kp V w w':=k.mono fun i _ hi => (hS i hi).1
 exact ⟨B,d,A,c,vs,hb.kp k fun e => (hS _ e).2 (h1 _ (.inl rfl)),hr.kp k hrS,ho.gr hr hG,hd,hA.kp k (Off.of_blk fun i hi e => (hS _ e).2 (h1 _ (.inr hi))),hv.gr kV hG,hAl,h1,fun i hi => hV i (h2 i hi),fun i hi => (hG i hi).elim (fun e => Nat.lt_of_lt_of_le (h3 i e) k.size) fun e => e.2⟩
theorem Lg.kp (h:Lg w l g p L G V) (k:Kp S w w') (hS:∀ i,S i → V i ∧ ¬ G i):Lg w' l g p L G V:=h.step k hS (fun i hi => .inl hi) fun i hi => hi
theorem Lg.nw (h:Lg w l g p L G V) (k:Nw w w'):Lg w' l g p L G V:=h.kp k fun _ h => h.elim
theorem Lg.lt (h:Lg w l g p L G V):∀ k,V k → k < w.heap.size:=by
 obtain ⟨B,d,A,c,vs,hb,hr,ho,hd,hA,hv,hAl,h1,h2,h3⟩:=h
 exact h3
theorem Lg.gl (h:Lg w l g p L G V):G l:=by
 obtain ⟨B,d,A,c,vs,hb,hr,ho,hd,hA,hv,hAl,h1,h2,h3⟩:=h
 exact h1 _ (.inl rfl)
theorem Lg.gv (h:Lg w l g p L G V):∀ k,G k → V k:=by
 obtain ⟨B,d,A,c,vs,hb,hr,ho,hd,hA,hv,hAl,h1,h2,h3⟩:=h
 exact h2
theorem Lg.c0 (h:Lg w l g p L G V):w.cell? ⟨l,0,none⟩ = some (.pointer (some ⟨g,0,none⟩)):=by
 obtain ⟨B,d,A,c,vs,hb,_⟩:=h
 exact hb.cell 0
theorem Lg.c1 (h:Lg w l g p L G V):w.cell? ⟨l,1,none⟩ = some (str p):=by
 obtain ⟨B,d,A,c,vs,hb,_⟩:=h
 exact hb.cell 1
theorem Lg.c2 (h:Lg w l g p L G V):w.cell? ⟨l,2,none⟩ = some (i64 L.base):=by
 obtain ⟨B,d,A,c,vs,hb,_⟩:=h
 exact hb.cell 2
theorem Lg.c5 (h:Lg w l g p L G V):w.cell? ⟨l,5,none⟩ = some (.bool L.dead):=by
 obtain ⟨B,d,A,c,vs,hb,_⟩:=h
 exact hb.cell 5
end
theorem logname_spec (l:Nat) (p:Nm) (w:World) (h:w.cell? ⟨l,1,none⟩ = some (str p)) (hp:p.length ≤ 20) :
  Cal Tryz.prog 99 #[.pointer (some ⟨l,0,none⟩)] w fun v w' => v = str (logN p) ∧ w' = w:=by
 refine enter Tryz.mixed Tryz.func99 rfl (by kernel_rfl) ?_
 have hn:¬ 9223372036854775807 < p.length + 4:=by omega
 have hcat:=cat_str p [45,108,111,103]
 simp -dsimp [go_sem,h,hn,hcat]
 rfl
theorem imgname_spec (l:Nat) (p:Nm) (w:World) (h:w.cell? ⟨l,1,none⟩ = some (str p)) (hp:p.length ≤ 20) :
  Cal Tryz.prog 162 #[.pointer (some ⟨l,0,none⟩)] w fun v w' => v = str (imgN p) ∧ w' = w:=by
 refine enter Tryz.mixed Tryz.func162 rfl (by kernel_rfl) ?_
 have hn:¬ 9223372036854775807 < p.length + 4:=by omega
 have hcat:=cat_str p [45,105,109,103]
 simp -dsimp [go_sem,h,hn,hcat]
 rfl
theorem has_spec (s:Nm) (g:Nat) (D:Dsk) (F:Nat → Prop) (w:World) (h:Dk w g D F) :
  Cal Tryz.prog 166 #[.pointer (some ⟨g,0,none⟩),str s] w fun v w' => v = .bool (tLook D.fs s).isSome ∧ Nw w w':=by
 have hmany:=h.ok.many
 refine enter Tryz.mixed Tryz.func166 rfl (by kernel_rfl) ?_
 simp -dsimp [go_sem]
 refine call (dlist_spec g D F w h) ?_
 rintro v w1 ⟨hk,A,c,rfl,hr,hc,hA⟩
 have hl:(keysA D.fs).length = D.fs.length:=by simp [keysA]
 rw [← hl]
 simp -dsimp [go_sem]
 refine call (contains_spec (keysA D.fs) s A c w1 hr (by omega)) ?_
 rintro v w2 ⟨rfl,rfl⟩
 have e:decide (s ∈ keysA D.fs) = (tLook D.fs s).isSome:=by
  rw [Bool.eq_iff_iff,decide_eq_true_iff]
  exact (tLook_keys s).symm
 simp -dsimp [go_sem,e]
 exact hk
theorem kW1_none {D:Dsk} {s:Nm} (h:tLook D.fs s = none):kW1 D s = (D,0):=by unfold kW1; rw [h]; rfl
theorem kW1_some {D:Dsk} {s:Nm} {x:Fil} (h:tLook D.fs s = some x):kW1 D s = dEach fRemove D [s]:=by unfold kW1; rw [h]; rfl
theorem removes_spec (ns:List Nm) (A:Option Addr) (c g:Nat) (D:Dsk) (F:Nat → Prop) (w:World) (h:Dk w g D F) (hr:Rd w A (ns.map fun s => str s)) (hA:Ofl A (ns.map fun s => str s) F) (hl:ns.length ≤ 140737488355328) (hs:∀ s ∈ ns,s.length ≤ 9223372036854775807) :
  Cal Tryz.prog 163 #[.pointer (some ⟨g,0,none⟩),.slice A ns.length c] w fun v w' => v = i64 (rmvs D ns).2 ∧ ∃ F',Dk w' g (rmvs D ns).1 F' ∧ Gr F F' w w' ∧ Kp F w w':=by
 refine enter Tryz.mixed Tryz.func163 rfl (by kernel_rfl) ?_
 simp -dsimp [go_sem]
 refine loop [4,6,7,10,11,12,13,14,15,16,17,18,19,20,21,22,23,24,25] (by kernel_rfl)
  (fun f w' => Box1 (fun a w' => ∃ (i:Nat) (D1:Dsk) (F1:Nat → Prop),a = i64 i ∧ i ≤ ns.length ∧ rmvs D ns = rmvs D1 (ns.drop i) ∧ Dk w' g D1 F1 ∧ Gr F F1 w w' ∧ Kp F w w') (f 10) w') (fun f _ => ns.length - (intOf (f 10)).toNat)
  ⟨0,D,F,rfl,Nat.zero_le _,rfl,h,fun k hk => .inl hk,Kp.refl _ _⟩ ?_
 rintro f w1 ⟨i,D1,F1,f10,hi,he,hD,hG,hK⟩
 by_cases hlt:i < ns.length
 ·have hi1:IntKind.i64.wrap ((i:Int) + 1) = ((i + 1:Nat):Int):=w64 (by omega) (by omega)
  have hr1:=hr.kp hK hA
  obtain ⟨b,o,rfl,hc⟩:=hr1 i (str ns[i]) (by simp [hlt])
  have hsl:=hs _ (List.getElem_mem hlt)
  rw [List.drop_eq_getElem_cons hlt] at he
  obtain ⟨i1,hi1'⟩:∃ i1,i1 = i + 1:=⟨_,rfl⟩
  rw [← hi1'] at hi1 he
  generalize ns[i] = s at *
  simp -dsimp [go_sem,f10,hlt,hc]
  refine call (has_spec s g D1 F1 w1 hD) ?_
  rintro v w2 ⟨rfl,hk2⟩
  have hD2:=hD.nw hk2
  have hG2:Gr F F1 w w2:=Gr.wide hG (Nat.le_refl _) hk2.size
  have hK2:=hK.nw hk2
  cases hx:tLook D1.fs s with
  | none =>
   have e:rmvs D1 (s :: ns.drop i1) = rmvs D1 (ns.drop i1):=by simp [rmvs,kW1_none hx]
   rw [e] at he
   simp -dsimp [go_sem,f10,hi1]
   exact ⟨⟨i1,D1,F1,rfl,by omega,he,hD2,hG2,hK2⟩,by simp [intOf]; omega⟩
  | some x =>
   have e:rmvs D1 (s :: ns.drop i1) = if (dEach fRemove D1 [s]).2 ≠ 0 then dEach fRemove D1 [s] else rmvs (dEach fRemove D1 [s]).1 (ns.drop i1):=by simp only [rmvs,kW1_some hx]
   rw [e] at he
   simp -dsimp [go_sem]
   have kb:Nw w2 (w2.alloc (.cells #[str s] 9)):=(Kp.refl _ _).alloc _
   refine call (dremove_spec [s] (some ⟨w2.heap.size,0,none⟩) 1 g D1 F1 _ (hD2.nw kb) (Rd.fresh rfl rfl) (hD2.ofl_new (Nat.le_refl _) _) (by simp) (by simpa using hsl)) ?_
   rintro v w3 ⟨rfl,F3,hD3,hG3,hK3⟩
   have hKb:=hK2.nw kb
   have hGb:Gr F F1 w (w2.alloc (.cells #[str s] 9)):=Gr.wide hG2 (Nat.le_refl _) kb.size
   have hG3':=Gr.trans hGb hG3 hKb.size hK3.size
   have hK3':=Kp.gr hKb hGb hK3
   obtain ⟨R,hR⟩:∃ R,R = dEach fRemove D1 [s]:=⟨_,rfl⟩
   rw [← hR] at he hD3 ⊢
   obtain ⟨D3,e3⟩:=R
   simp only at he hD3 ⊢
   by_cases h0:e3 = 0
   ·subst h0
    rw [if_neg (fun h => h rfl)] at he
    simp -dsimp [go_sem,f10,hi1]
    exact ⟨⟨i1,D3,F3,rfl,by omega,he,hD3,hG3',hK3'⟩,by simp [intOf]; omega⟩
   ·rw [if_pos h0] at he
    have h0':((e3:Int) != 0) = true:=by simp; omega
    rw [he]
    simp -dsimp [go_sem,h0',h0]
    exact ⟨F3,hD3,hG3',hK3'⟩
 ·obtain rfl:i = ns.length:=by omega
  rw [List.drop_length] at he
  simp -dsimp [go_sem,f10]
  rw [he]
  exact ⟨rfl,F1,hD,hG,hK⟩
theorem last_spec (l g:Nat) (p:Nm) (L:Led) (G V:Nat → Prop) (w:World) (h:Lg w l g p L G V) (ok:L.Ok) :
  Cal Tryz.prog 96 #[.pointer (some ⟨l,0,none⟩)] w fun v w' => v = i64 L.last ∧ Nw w w':=by
 obtain ⟨B,d,A,c,vs,hb,_⟩:=h
 have hk:=ok.last
 have kd:Nw w w.drew:=(Kp.refl _ _).drew
 have c2:w.cell? ⟨l,2,none⟩ = some (i64 L.base):=hb.cell 2
 have c4:w.cell? ⟨l,4,none⟩ = some (.slice A L.ents.length c):=hb.cell 4
 have c2d:=kd.cell_some c2 fun h => h
 have c4d:=kd.cell_some c4 fun h => h
 have hw:IntKind.i64.wrap ((L.base:Int) + (L.ents.length:Int)) = ((L.last:Nat):Int):=by unfold Led.last; rw [w64 (by omega) (by omega)]; omega
 refine enter Tryz.mixed Tryz.func96 rfl (by kernel_rfl) ?_
 simp -dsimp [go_sem]
 refine draw (.take 0 (.take 1 (.take 2 (.take 3 (.take 4 (.take 5 (.take 6 (.take 7 (.take 8 (.take 9 (.take 10 .done))))))))))) (by kernel_rfl) (fun wz => Nw w wz) kd ?_
 simp -dsimp [go_sem,c2d,c4d,hw]
 exact ⟨fun wz hz => by simp [hz.cell_some c2 fun h => h],fun wz hz => by simp [hz.cell_some c4 fun h => h],kd⟩
theorem base_spec (l g:Nat) (p:Nm) (L:Led) (G V:Nat → Prop) (w:World) (h:Lg w l g p L G V) (ok:L.Ok) :
  Cal Tryz.prog 102 #[.pointer (some ⟨l,0,none⟩)] w fun v w' => Nw w w' ∧ ∃ u,v = .tuple #[i64 L.base,u] ∧ Bs w' u L.data w.heap.size:=by
 obtain ⟨B,d,A,c,vs,hb,hr,ho,hd,_⟩:=h
 have hk:=ok.data
 have kd:Nw w w.drew:=(Kp.refl _ _).drew
 have c2:w.cell? ⟨l,2,none⟩ = some (i64 L.base):=hb.cell 2
 have c3:w.cell? ⟨l,3,none⟩ = some (.slice B L.data.length d):=hb.cell 3
 have c2d:=kd.cell_some c2 fun h => h
 have c3d:=kd.cell_some c3 fun h => h
 refine enter Tryz.mixed Tryz.func102 rfl (by kernel_rfl) ?_
 simp -dsimp [go_sem]
 refine draw (.take 0 (.take 1 (.take 2 (.take 3 (.take 4 (.take 5 (.take 6 (.take 7 (.alt 8 (.take 9 (.take 10 .done)) .stop))))))))) (by kernel_rfl) (fun wz => Nw w wz) kd ?_
 simp -dsimp [go_sem,c2d,c3d]
 refine ⟨fun wz hz => by simp [hz.cell_some c2 fun h => h],fun wz hz => by simp [hz.cell_some c3 fun h => h],?_⟩
 refine call (clone_spec B d L.data _ (hr.nw kd) (by omega)) ?_
 rintro v w1 ⟨hB,hk1⟩
 refine ⟨kd.nw hk1,?_⟩
 simp -dsimp [go_sem]
 exact ⟨kd.nw hk1,hB⟩
theorem at_spec (i:Int) (l g:Nat) (p:Nm) (L:Led) (G V:Nat → Prop) (w:World) (h:Lg w l g p L G V) (ok:L.Ok) (hi:-9223372036854775808 ≤ i) :
  Cal Tryz.prog 110 #[.pointer (some ⟨l,0,none⟩),i64 i] w fun v w' => Nw w w' ∧ ∃ u,v = .tuple #[u,i64 (lAt L i).2] ∧ Bs w' u (lAt L i).1 w.heap.size:=by
 obtain ⟨B,d,A,c,vs,hb,hr,ho,hd,hA,hv,_⟩:=id h
 have hk:=ok.last
 have c2:w.cell? ⟨l,2,none⟩ = some (i64 L.base):=hb.cell 2
 have c4:w.cell? ⟨l,4,none⟩ = some (.slice A L.ents.length c):=hb.cell 4
 refine enter Tryz.mixed Tryz.func110 rfl (by kernel_rfl) ?_
 have e0:lAt L i = if i ≤ L.base ∨ (L.last:Int) < i then ([],7) else (L.ents.getD (i - L.base - 1).toNat [],0):=rfl
 by_cases h1:i ≤ L.base
 ·rw [if_pos (.inl h1)] at e0
  rw [e0]
  simp -dsimp [go_sem,c2,h1]
  exact ⟨Kp.refl _ _,Bs.nil _ _⟩
 ·simp -dsimp [go_sem,c2,h1]
  refine call (last_spec l g p L G V w h ok) ?_
  rintro v w1 ⟨rfl,hk1⟩
  by_cases h2:(L.last:Int) < i
  ·rw [if_pos (.inr h2)] at e0
   rw [e0]
   simp -dsimp [go_sem,h2]
   exact ⟨hk1,Bs.nil _ _⟩
  ·rw [if_neg (by omega)] at e0
   have hl:L.last = L.base + L.ents.length:=rfl
   obtain ⟨j,hj⟩:∃ j:Nat,i = L.base + j + 1:=⟨(i - L.base - 1).toNat,by omega⟩
   have hjl:j < L.ents.length:=by omega
   have hjn:(i - L.base - 1).toNat = j:=by omega
   rw [hjn] at e0
   have hw1:IntKind.i64.wrap (i - (L.base:Int)) = ((j + 1:Nat):Int):=by rw [w64 (by omega) (by omega)]; omega
   obtain ⟨j1,hj1⟩:∃ j1,j1 = j + 1:=⟨_,rfl⟩
   rw [← hj1] at hw1
   have hw2:IntKind.i64.wrap ((j1:Int) - 1) = (j:Int):=by rw [w64 (by omega) (by omega)]; omega
   obtain ⟨X,xd,hvj,hrX,hoX,hxd⟩:=hv.2 j hjl
   obtain ⟨b,o,rfl,hcj⟩:=hA.rd _ _ hvj
   have hel:=ok.ents _ (List.getElem_mem hjl)
   have hgd:L.ents.getD j [] = L.ents[j]:=by simp [List.getD,hjl]
   rw [hgd] at e0
   have c21:=hk1.cell_some c2 fun h => h
   have c41:=hk1.cell_some c4 fun h => h
   have cj1:=hk1.cell_some hcj fun h => h
   have hrX1:=hrX.nw hk1
   have kd:Nw w1 w1.drew:=(Kp.refl _ _).drew
   have c2d:=kd.cell_some c21 fun h => h
   have c4d:=kd.cell_some c41 fun h => h
   have cjd:=kd.cell_some cj1 fun h => h
   simp -dsimp [go_sem,h2]
   refine draw (.take 0 (.take 1 (.take 2 (.take 3 (.take 4 (.take 5 (.take 6 (.take 7 (.take 8 (.take 9 (.take 10 (.take 11 (.take 12 (.alt 13 (.take 14 (.take 15 .done)) .stop)))))))))))))) (by kernel_rfl) (fun wz => Nw w1 wz) kd ?_
   simp -dsimp [go_sem,c2d,c4d,hw1,hw2,hjl,cjd]
   repeat refine ⟨fun wz hz => by simp [hz.cell_some c21 fun h => h,hz.cell_some c41 fun h => h,hz.cell_some cj1 fun h => h],?_⟩
   refine call (clone_spec X xd L.ents[j] _ (hrX1.nw kd) (by omega)) ?_
   rintro v w2 ⟨hB,hk2⟩
   refine ⟨kd.nw hk2,?_⟩
   rw [e0]
   simp -dsimp [go_sem]
   exact ⟨hk1.nw (kd.nw hk2),hB.mono (Nat.le_trans hk1.size kd.size)⟩
theorem dies_spec (e:Nat) (l g:Nat) (p:Nm) (L:Led) (G V:Nat → Prop) (w:World) (h:Lg w l g p L G V) :
  Cal Tryz.prog 101 #[.pointer (some ⟨l,0,none⟩),i64 e] w fun v w' => v = i64 e ∧ Lg w' l g p { L with dead:=L.dead || decide (e ≠ 0) } G V ∧ Kp (At l) w w':=by
 obtain ⟨B,d,A,c,vs,hb,hr,ho,hd,hA,hv,hAl,h1,h2,h3⟩:=id h
 have c5:=hb.cell 5
 have f5:=hb.frozen 5
 have hVl:V l:=h2 _ (h1 _ (.inl rfl))
 refine enter Tryz.mixed Tryz.func101 rfl (by kernel_rfl) ?_
 have fin:∀ x:Bool,x = (L.dead || decide (e ≠ 0)) → Lg (w.setCell ⟨l,5,none⟩ (.bool x)) l g p { L with dead:=L.dead || decide (e ≠ 0) } G V ∧ Kp (At l) w (w.setCell ⟨l,5,none⟩ (.bool x)):=fun x hx => by
  have ks:Kp (At l) w (w.setCell ⟨l,5,none⟩ (.bool x)):=(Kp.refl _ _).setCell_at _ _
  refine ⟨⟨B,d,A,c,vs,?_,hr.kp ks (fun a ha hx e => ho a ha hx ((show a.block = l from e) ▸ hVl)),ho,hd,hA.kp ks hAl,hv.gr (ks.mono fun i _ (e:i = l) => e ▸ hVl) (fun i hi => .inl hi),hAl,h1,h2,fun k hk => Nat.lt_of_lt_of_le (h3 k hk) ks.size⟩,ks⟩
  have:=hb.set 5 (.bool x)
  rw [hx] at this ⊢
  simpa using this
 cases hdd:L.dead with
 | true =>
  rw [hdd] at c5
  simp -dsimp [go_sem,c5,f5]
  have:=fin true (by rw [hdd]; rfl)
  rwa [hdd] at this
 | false =>
  rw [hdd] at c5
  by_cases h0:e = 0
  ·subst h0
   simp -dsimp [go_sem,c5,f5]
   have:=fin false (by rw [hdd]; rfl)
   rwa [hdd] at this
  ·have h0':((e:Int) != 0) = true:=by simp; omega
   simp -dsimp [go_sem,c5,f5,h0',h0]
   have:=fin true (by rw [hdd]; simp [h0])
   rw [hdd] at this
   simpa [h0] using this
/-- A ledger and its disk. -/
structure LS (w:World) (l g:Nat) (p:Nm) (D:Dsk) (L:Led) (F G V:Nat → Prop):Prop where
 dk:Dk w g D F
 lg:Lg w l g p L G V
 fv:∀ i,F i → V i
 dj:∀ i,F i → ¬ G i
section
variable {w w':World} {l g:Nat} {p:Nm} {D D':Dsk} {L L':Led} {F F' G G' V V' S:Nat → Prop}
theorem LS.nw (h:LS w l g p D L F G V) (k:Nw w w'):LS w' l g p D L F G V:=⟨h.dk.nw k,h.lg.nw k,h.fv,h.dj⟩
theorem LS.lF (h:LS w l g p D L F G V):¬ F l:=fun e => h.dj l e h.lg.gl
/-- The disk has turned. -/
theorem LS.disk (h:LS w l g p D L F G V) (hD:Dk w' g D' F') (hG:Gr F F' w w') (hK:Kp F w w'):LS w' l g p D' L F' G (fun i => V i ∨ F' i) ∧ Gr V (fun i => V i ∨ F' i) w w':=by
 have hGV:Gr V (fun i => V i ∨ F' i) w w':=fun i hi => hi.elim .inl fun e => (hG i e).imp (h.fv i) id
 refine ⟨⟨hD,h.lg.step hK (fun i hi => ⟨h.fv i hi,h.dj i hi⟩) hGV fun i hi => .inl hi,fun i hi => .inr hi,fun i hi hg => ?_⟩,hGV⟩
 rcases hG i hi with e | e
 ·exact h.dj i e hg
 ·have:=h.lg.lt i (h.lg.gv i hg); omega
/-- The ledger's own blocks have turned. -/
theorem LS.own (h:LS w l g p D L F G V) (hL:Lg w' l g p L' G' V') (hG:Gr G G' w w') (hV:∀ i,V i → V' i) (hK:Kp G w w'):LS w' l g p D L' F G' V' :=
 ⟨h.dk.kp hK fun i hf hg => h.dj i hf hg,hL,fun i hi => hV i (h.fv i hi),fun i hf hg => by
  rcases hG i hg with e | e
  ·exact h.dj i hf e
  ·have:=h.dk.lt i hf; omega⟩
end
theorem clears_spec (l g:Nat) (p:Nm) (D:Dsk) (L:Led) (F G V:Nat → Prop) (w:World) (h:LS w l g p D L F G V) (hp:p.length ≤ 20) :
  Cal Tryz.prog 105 #[.pointer (some ⟨l,0,none⟩)] w fun v w' => v = i64 (rmvs D [shadow (imgN p)]).2 ∧ ∃ F',Dk w' g (rmvs D [shadow (imgN p)]).1 F' ∧ Gr F F' w w' ∧ Kp F w w':=by
 have c0:=h.lg.c0
 have kd:Nw w w.drew:=(Kp.refl _ _).drew
 have c0d:=kd.cell_some c0 fun h => h
 have c1d:=kd.cell_some h.lg.c1 fun h => h
 have hil:(imgN p).length = p.length + 4:=by simp [imgN]
 have hn:¬ 9223372036854775807 < (imgN p).length + 1:=by omega
 have hcat:(⟨(imgN p).toArray⟩:ByteArray) ++ ⟨#[126]⟩ = ⟨(shadow (imgN p)).toArray⟩:=cat_str (imgN p) [126]
 have hsl:(shadow (imgN p)).length ≤ 9223372036854775807:=by unfold shadow; rw [List.length_append]; simp; omega
 refine enter Tryz.mixed Tryz.func105 rfl (by kernel_rfl) ?_
 simp -dsimp [go_sem]
 refine draw (.take 0 (.take 1 (.take 2 (.take 3 (.take 4 (.alt 5 (.take 6 (.alt 7 (.alt 8 (.take 9 .done) .stop) .stop)) .stop)))))) (by kernel_rfl) (fun wz => Kp F w wz) (Nw.kp kd F) ?_
 simp -dsimp [go_sem,c0d]
 refine ⟨fun wz hz => by simp [hz.cell_some c0 h.lF],?_⟩
 refine call (imgname_spec l p w.drew c1d hp) ?_
 rintro v w1 ⟨rfl,rfl⟩
 refine ⟨Nw.kp kd F,?_⟩
 generalize imgN p = im at *
 generalize shadow im = sh at *
 simp -dsimp [go_sem,hn,hcat]
 have kb:Nw w (w.alloc (.cells #[str sh] 9)).drew:=((Kp.refl _ _).alloc _).drew
 rw [show (Value.string ⟨sh.toArray⟩) = str sh from rfl]
 refine ⟨Nw.kp kb F,?_⟩
 refine call (removes_spec [sh] (some ⟨w.heap.size,0,none⟩) 1 g D F _ (h.dk.nw kb) ((Rd.fresh (w:=w) rfl rfl).nw ((Kp.refl _ _).drew)) (h.dk.ofl_new (Nat.le_refl _) _) (by simp) (by simpa using hsl)) ?_
 rintro v w2 ⟨rfl,F2,hD2,hG2,hK2⟩
 have hKF:=(Nw.kp kb F).trans hK2 fun _ _ h => h
 refine ⟨hKF,?_⟩
 simp -dsimp [go_sem]
 exact ⟨F2,hD2,Gr.wide hG2 kb.size (Nat.le_refl _),hKF⟩
/-- A ledger's number and data set. -/
theorem Lg.set {w:World} {l g:Nat} {p:Nm} {L:Led} {G V:Nat → Prop} (h:Lg w l g p L G V) (n:Nat) {u:Value} {b:List UInt8} {B0:Nat} (hu:Bs w u b B0) (hB:∀ k,V k → k < B0) :
  Lg ((w.setCell ⟨l,2,none⟩ (i64 n)).setCell ⟨l,3,none⟩ u) l g p { L with base:=n,data:=b } G V ∧ Kp (At l) w ((w.setCell ⟨l,2,none⟩ (i64 n)).setCell ⟨l,3,none⟩ u):=by
 obtain ⟨B,d,A,c,vs,hb,hr,ho,hd,hA,hv,hAl,h1,h2,h3⟩:=h
 obtain ⟨X,x,rfl,hoX,hX⟩:=hu
 have hVl:V l:=h2 _ (h1 _ (.inl rfl))
 have ks:Kp (At l) w ((w.setCell ⟨l,2,none⟩ (i64 n)).setCell ⟨l,3,none⟩ (.slice X b.length x)):=((Kp.refl _ _).setCell_at _ _).setCell_at _ _
 have hXV:Off X V:=fun a ha hv => by have:=hX a ha; have:=hB _ hv; omega
 refine ⟨⟨X,x,A,c,vs,?_,(hoX.kp ks fun a ha (e:a.block = l) => hXV a ha (e ▸ hVl)).rd,hXV.l _,hoX.2.1,hA.kp ks hAl,hv.gr (ks.mono fun i _ (e:i = l) => e ▸ hVl) (fun i hi => .inl hi),hAl,h1,h2,fun k hk => Nat.lt_of_lt_of_le (h3 k hk) ks.size⟩,ks⟩
 have:=(hb.set 2 (i64 n)).set 3 (.slice X b.length x)
 simpa using this
theorem image_spec (l g:Nat) (p:Nm) (D:Dsk) (F G V:Nat → Prop) (w:World) (h:LS w l g p D ⟨0,[],[],false⟩ F G V) (hp:p.length ≤ 20) :
  Cal Tryz.prog 106 #[.pointer (some ⟨l,0,none⟩)] w fun v w' => v = i64 (imgL D p).2.2 ∧ Lg w' l g p ⟨(imgL D p).1,(imgL D p).2.1,[],false⟩ G V ∧ Kp (At l) w w':=by
 have c0:=h.lg.c0
 have kd:Nw w w.drew:=(Kp.refl _ _).drew
 have c0d:=kd.cell_some c0 fun h => h
 have c1d:=kd.cell_some h.lg.c1 fun h => h
 have e0:imgL D p = if (kLoad D (imgN p)).2 = 7 then (0,[],0) else if (kLoad D (imgN p)).2 ≠ 0 then (0,[],(kLoad D (imgN p)).2) else
  ((numRow (kLoad D (imgN p)).1).2.1,(numRow (kLoad D (imgN p)).1).2.2,if (numRow (kLoad D (imgN p)).1).1 = false ∨ 1099511627776 < (numRow (kLoad D (imgN p)).1).2.1 then 3 else 0):=rfl
 have hlen:=kLoad_len h.dk.ok (imgN p)
 refine enter Tryz.mixed Tryz.func106 rfl (by kernel_rfl) ?_
 simp -dsimp [go_sem]
 refine draw (.take 0 (.take 1 (.take 2 (.take 3 (.take 4 (.alt 5 (.alt 6 (.take 7 (.take 8 (.take 9 (.take 10 (.take 11 .done))))) .stop) .stop)))))) (by kernel_rfl) (fun wz => Nw w wz) kd ?_
 simp -dsimp [go_sem,c0d]
 refine ⟨fun wz hz => by simp [hz.cell_some c0 fun h => h],?_⟩
 refine call (imgname_spec l p w.drew c1d hp) ?_
 rintro v w1 ⟨rfl,rfl⟩
 refine ⟨kd,?_⟩
 simp -dsimp [go_sem]
 refine call (kload_spec (imgN p) g D F _ (h.dk.nw kd)) ?_
 rintro v w2 ⟨hk2,u,rfl,hB⟩
 have n2:=kd.nw hk2
 refine ⟨n2,?_⟩
 obtain ⟨R,hR⟩:∃ R,R = kLoad D (imgN p):=⟨_,rfl⟩
 rw [← hR] at e0 hlen hB ⊢
 obtain ⟨b,e⟩:=R
 simp only at e0 hlen hB ⊢
 obtain ⟨X,x,rfl,hoX,hX⟩:=id hB
 have h2:=h.nw n2
 simp -dsimp [go_sem]
 by_cases e7:e = 7
 ·subst e7
  rw [if_pos rfl] at e0
  rw [e0]
  simp -dsimp [go_sem]
  exact ⟨h2.lg,Nw.kp n2 _⟩
 have e7':((e:Int) == 7) = false:=by simp; omega
 rw [if_neg e7] at e0
 by_cases e00:e = 0
 ·subst e00
  rw [if_neg (fun h => h rfl)] at e0
  simp -dsimp [go_sem]
  refine call (newReader_spec X x b w2 hoX.rd (by omega)) ?_
  rintro v w3 ⟨r,rfl,hr,⟨FR,hRd,hFR⟩,hk3⟩
  simp -dsimp [go_sem]
  refine call (num_spec r b false FR w3 hRd (by omega)) ?_
  rintro v w4 ⟨rfl,hRd4,hk4⟩
  have hnl:=numL_len b false
  simp -dsimp [go_sem]
  refine call (rBytes_spec r _ _ FR w4 hRd4 (by omega)) ?_
  rintro v w5 ⟨hB5,hRd5,hk5⟩
  have hrw:w.heap.size ≤ r:=Nat.le_trans n2.size hr
  have n5:Nw w w5:=((n2.nw hk3).at_ hk4 fun k (e:k = r) => by omega).at_ hk5 fun k (e:k = r) => by omega
  have h5:=h.nw n5
  have hV5:∀ k,V k → k < w4.heap.size:=fun k hk => by have:=h.lg.lt k hk; have:=((n2.nw hk3).at_ hk4 fun k (e:k = r) => by omega).size; omega
  obtain ⟨B0,d0,A0,c00,vs0,hb5,_⟩:=id h5.lg
  have q2:=hb5.cell 2
  have q3:=hb5.cell 3
  have f2:=hb5.frozen 2
  have f3:=hb5.frozen 3
  obtain ⟨hL6,hk6⟩:=h5.lg.set (numL b false).1 hB5 hV5
  obtain ⟨Y,y,rfl,hoY,hY⟩:=id hB5
  have hw6:∀ k,FR k → k ≠ l:=fun k hk e => by have:=hFR k hk; have:=h2.lg.lt l (h2.lg.gv l h2.lg.gl); omega
  have hRd6:=hRd5.kp_ hk6 fun k hk (e:k = l) => hw6 k hk e
  have n6:Kp (At l) w ((w5.setCell ⟨l,2,none⟩ (i64 (numL b false).1)).setCell ⟨l,3,none⟩ (.slice Y (bytL (numL b false).2.1 (numL b false).2.2).1.length y)):=(Nw.kp n5 _).trans hk6 fun _ _ h => h
  have hl2:=hL6.c2
  have en:numRow b = (!(bytL (numL b false).2.1 (numL b false).2.2).2.2 && (bytL (numL b false).2.1 (numL b false).2.2).2.1.isEmpty,(numL b false).1,(bytL (numL b false).2.1 (numL b false).2.2).1):=rfl
  rw [en] at e0
  simp only at e0 hl2
  generalize (bytL (numL b false).2.1 (numL b false).2.2).2.2 = bad at *
  generalize (bytL (numL b false).2.1 (numL b false).2.2).2.1 = rest at *
  generalize (bytL (numL b false).2.1 (numL b false).2.2).1 = data at *
  obtain ⟨yl,hyl⟩:∃ yl,yl = data.length:=⟨_,rfl⟩
  rw [← hyl] at hL6 n6 hk6 hRd6 hl2 ⊢
  generalize (numL b false).1 = n at *
  simp -dsimp [go_sem,q2,q3,f2,f3]
  generalize (w5.setCell ⟨l,2,none⟩ (i64 n)).setCell ⟨l,3,none⟩ (.slice Y yl y) = w6 at *
  refine call (whole_spec r rest bad FR w6 hRd6) ?_
  rintro u w7 ⟨rfl,rfl⟩
  cases hwh:(!bad && rest.isEmpty) with
  | false =>
   rw [hwh,if_pos (.inl rfl)] at e0
   rw [e0]
   simp -dsimp [go_sem]
   exact ⟨hL6,n6⟩
  | true =>
   rw [hwh] at e0
   by_cases hbig:1099511627776 < n
   ·rw [if_pos (.inr hbig)] at e0
    have hbig':(1099511627776:Int) < (n:Int):=by omega
    rw [e0]
    simp -dsimp [go_sem,hl2,hbig,hbig']
    exact ⟨hL6,n6⟩
   ·rw [if_neg (by simp; omega)] at e0
    have hbig':¬ (1099511627776:Int) < (n:Int):=by omega
    rw [e0]
    simp -dsimp [go_sem,hl2,hbig,hbig']
    exact ⟨hL6,n6⟩
 ·rw [if_pos e00] at e0
  rw [e0]
  have e0':((e:Int) != 0) = true:=by simp; omega
  simp -dsimp [go_sem,e7',e0',e7]
  exact ⟨h2.lg,Nw.kp n2 _⟩
end Go.Proofs.YtellahclbhfdiaaGreatDoor
