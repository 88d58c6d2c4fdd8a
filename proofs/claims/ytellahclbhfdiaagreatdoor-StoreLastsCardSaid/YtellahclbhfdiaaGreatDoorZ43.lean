/-
  A store's ledger on its disk, the fuse lit or not: plain laws. By the session itself. A store's ledger: an entry appended, an image written, the fuse lit or not: plain laws. By the session itself. A store's step, the fuse lit or not; what a crash leaves: plain laws. By the session itself.
-/
import Derived.Test.YtellahclbhfdiaaGreatDoorZ42
import Derived.Test.YtellahclbhfdiaaGreatDoorZ27
namespace Go.Proofs.YtellahclbhfdiaaGreatDoor
set_option linter.unusedSimpArgs false
set_option linter.unusedVariables false
set_option maxRecDepth 100000
set_option maxHeartbeats 1000000
open Go.Vc Go.RowKit
/-- The log's bytes. -/
def logZ (base:Nat) (qs:List (List UInt8)):List UInt8:=recsB (entsP (base + 1) qs)
def imgZ (base:Nat) (data:List UInt8):List UInt8:=recL (numB base ++ rowB data)
structure Bq (base:Nat) (data:List UInt8) (qs:List (List UInt8)):Prop where
 hb:base ≤ 100000
 hd:data.length ≤ 500000
 hq:qs.length ≤ 100000
 he:∀ b ∈ qs,b.length ≤ 2000
/-- What lies on a disk for a store: the image, the log, all of which lasts. -/
structure Lz (D:Dsk) (base:Nat) (data:List UInt8) (qs:List (List UInt8)) (u m:Nat):Prop where
 free:Free D u m
 room:D.room = 268435456
 sh:tLook D.fs (shadow (imgN mailN)) = none
 img:(base = 0 ∧ data = [] ∧ tLook D.fs (imgN mailN) = none) ∨ tLook D.fs (imgN mailN) = some ⟨imgZ base data,(imgZ base data).length⟩
 log:(qs = [] ∧ tLook D.fs (logN mailN) = none) ∨ tLook D.fs (logN mailN) = some ⟨logZ base qs,(logZ base qs).length⟩
 sy:Sy D
theorem Lz.mono {D:Dsk} {base u u' m m':Nat} {data:List UInt8} {qs:List (List UInt8)} (h:Lz D base data qs u m) (hu:u ≤ u') (hm:m ≤ m'):Lz D base data qs u' m':=⟨h.free.mono hu hm,h.room,h.sh,h.img,h.log,h.sy⟩
theorem logZ_push (base:Nat) (qs:List (List UInt8)) (b:List UInt8):logZ base (qs ++ [b]) = logZ base qs ++ entB (base + qs.length + 1) b:=by
 unfold logZ
 rw [ents_push,show base + 1 + qs.length = base + qs.length + 1 by omega]
theorem entZ_len {n:Nat} {b:List UInt8} (hn:n ≤ 1000000) (hb:b.length ≤ 1000000):(entB n b).length ≤ b.length + 30:=by
 have:=entry_len n b (by omega) (by omega)
 unfold entB
 rw [recL_len]
 omega
theorem imgZ_len {n:Nat} {b:List UInt8} (hn:n ≤ 1000000) (hb:b.length ≤ 1000000):(imgZ n b).length ≤ b.length + 30:=by
 have:=entry_len n b (by omega) (by omega)
 unfold imgZ
 rw [recL_len]
 omega
theorem lzs:(imgN mailN).length = 8 ∧ (logN mailN).length = 8 ∧ badN (logN mailN) = false ∧ badN (imgN mailN) = false:=⟨rfl,rfl,by decide,by decide⟩
theorem Lz.file {D:Dsk} {base u m:Nat} {data:List UInt8} {qs:List (List UInt8)} (h:Lz D base data qs u m):(fileD D (logN mailN)).b = logZ base qs ∧ (fileD D (logN mailN)).l = (logZ base qs).length:=by
 unfold fileD
 rcases h.log with ⟨rfl,h2⟩ | h2
 ·rw [h2]; exact ⟨rfl,rfl⟩
 ·rw [h2]; exact ⟨rfl,rfl⟩
theorem Lz.im {D:Dsk} {base u m:Nat} {data:List UInt8} {qs:List (List UInt8)} (h:Lz D base data qs u m) (hq:Bq base data qs):imgL D mailN = (base,data,0):=by
 have h1:=hq.hb
 have h3:=hq.hd
 rcases h.img with ⟨rfl,rfl,h2⟩ | h2
 ·exact imgL_none h2
 ·exact imgL_some (by omega) (by omega) h2
/-- A disk all of whose bytes last, behind a crash: the same. -/
theorem crash_sy {D E:Dsk} (hs:Srt D.fs) (sy:Sy D) (hl:D.left = none) (hf:E.fs = D.fs) (hr:E.room = D.room) (d:Int):dCrash E d = D:=by
 have e:mapv (cutF d.toNat) D.fs = D.fs:=tLook_ext (by unfold Srt mapv; rw [List.pairwise_map]; exact hs) hs fun t => by
  rw [tLook_mapv]
  cases hx:tLook D.fs t with
  | none => rfl
  | some x => rw [Option.map_some,cutF_sy (sy t x hx)]
 unfold dCrash
 rw [hf,hr,e]
 obtain ⟨r,fs,lf⟩:=D
 simp only at hl ⊢
 rw [hl]
theorem opn_parts {D D':Dsk} {base:Nat} {data:List UInt8} {qs:List (List UInt8)} (hs:tLook D.fs (shadow (imgN mailN)) = none) (hi:imgL D mailN = (base,data,0)) (hl:logL D mailN base = (D',0,qs)):opn D mailN = (D',0,⟨base,data,qs,false⟩):=by
 have e1:rmvs D [shadow (imgN mailN)] = (D,0):=by simp [rmvs,kW1_none hs]
 unfold opn opn2
 rw [e1]
 simp only [ne_eq,not_true_eq_false,if_false]
 unfold opn3
 rw [hi]
 simp only [ne_eq,not_true_eq_false,if_false]
 rw [hl]
theorem Sy.gone {D:Dsk} (sy:Sy D) (hs:Srt D.fs) (s:Nm):Sy { D with fs:=tGone D.fs s }:=fun t x hx => by
 simp only [tLook_gone hs] at hx
 split at hx
 ·cases hx
 ·exact sy t x hx
theorem Sy.lay {D:Dsk} (sy:Sy D) (s:Nm) (b:List UInt8):Sy { D with fs:=tLay D.fs s ⟨b,b.length⟩ }:=fun t x hx => by
 simp only [tLook_lay] at hx
 split at hx
 ·cases hx; rfl
 ·exact sy t x hx
/-- What stands is found. -/
theorem Lz.op {D:Dsk} {base u m:Nat} {data:List UInt8} {qs:List (List UInt8)} (h:Lz D base data qs u m) (hq:Bq base data qs) :
  ∃ D',opn D mailN = (D',0,⟨base,data,qs,false⟩) ∧ Lz D' base data qs u m:=by
 have hb:=hq.hb
 have hql:=hq.hq
 have him:=h.im hq
 have him2:=img_log mailN
 have hsl:=log_sh mailN
 rcases h.log with ⟨hq0,h2⟩ | h2
 ·exact ⟨D,opn_parts h.sh him (by unfold logL; rw [h2,hq0]),h⟩
 ·obtain ⟨la,htk⟩:=takesP_next (base:=base) qs [] (-1) (base + 1) (by simp) (by omega) (fun b hb => by have:=hq.he b hb; omega) (.inl (by omega))
  rw [List.nil_append] at htk
  have hsc:=scan_all (entsP (base + 1) qs) (entsP_mem hq.he (by omega) (by omega))
  have hc:cutIf D (logN mailN) (recsB (entsP (base + 1) qs)).length (recsB (entsP (base + 1) qs)).length = (D,0):=by unfold cutIf; rw [if_neg (Nat.lt_irrefl _)]
  have el:logL D mailN base = ((emptyIf D (logN mailN) qs).1,(emptyIf D (logN mailN) qs).2,qs):=by
   unfold logL
   rw [h2]
   simp only
   unfold logOf logZ
   rw [hsc]
   simp only
   rw [htk]
   simp only
   unfold logFin
   rw [hc,if_neg (fun h => h rfl)]
  by_cases hq0:qs = []
  ·have e2:=step_free (D:=D) (s:=logN mailN) fRemove h.free.left h.free.left lzs.2.2.1 h2
   have ee:emptyIf D (logN mailN) qs = (fRemove D (logN mailN) ⟨logZ base qs,(logZ base qs).length⟩,0):=by
    unfold emptyIf
    rw [if_pos (by rw [hq0]; rfl),e2]
   rw [ee] at el
   have hs:=h.free.ok.srt
   refine ⟨_,opn_parts h.sh him el,h.free.gone _,h.room,?_,?_,.inl ⟨hq0,?_⟩,h.sy.gone hs _⟩
   ·simp only [fRemove,tLook_gone hs,if_neg hsl.symm]; exact h.sh
   ·simp only [fRemove,tLook_gone hs,if_neg him2]; exact h.img
   ·simp only [fRemove,tLook_gone hs,if_pos]
  ·have ee:emptyIf D (logN mailN) qs = (D,0):=by
    unfold emptyIf
    rw [if_neg (fun e => hq0 (List.length_eq_zero_iff.1 e))]
   rw [ee] at el
   exact ⟨D,opn_parts h.sh him el,h⟩
/-- A crash, the fuse lit or not, of what stands. -/
theorem Lz.crash {D:Dsk} {base u m:Nat} {data:List UInt8} {qs:List (List UInt8)} (h:Lz D base data qs u m) (lf:Option Nat) (d:Int):dCrash { D with left:=lf } d = D:=crash_sy h.free.ok.srt h.sy h.free.left rfl rfl d
/-- A disk of which a crash leaves one of two. -/
def Bk (E:Dsk) (base:Nat) (data:List UInt8) (qs:List (List UInt8)) (base':Nat) (data':List UInt8) (qs':List (List UInt8)) (u m:Nat):Prop :=
 ∀ d,(dCrash E d).Ok → ∃ D4 b4 d4 q4,opn (dCrash E d) mailN = (D4,0,⟨b4,d4,q4,false⟩) ∧ Lz D4 b4 d4 q4 u m ∧ ((b4 = base ∧ d4 = data ∧ q4 = qs) ∨ (b4 = base' ∧ d4 = data' ∧ q4 = qs'))
/-- An entry of which a part may last. -/
theorem Lz.half {D E:Dsk} {base u m:Nat} {data:List UInt8} {qs:List (List UInt8)} {b:List UInt8} (h:Lz D base data qs u m) (hq:Bq base data qs) (hb:b.length ≤ 2000) (hu:u + b.length + 30 ≤ 268435456) (hm:m < 4095)
  (hE:E.fs = tLay D.fs (logN mailN) ⟨logZ base (qs ++ [b]),(logZ base qs).length⟩) (hr:E.room = D.room):Bk E base data qs base data (qs ++ [b]) (u + b.length + 30) (m + 1):=by
 intro d ok
 have hb1:=hq.hb
 have hql:=hq.hq
 have hX:=logZ_push base qs b
 have hel:=entZ_len (n:=base + qs.length + 1) (b:=b) (by omega) (by omega)
 have him2:=img_log mailN
 have hsl:=log_sh mailN
 have hfl:(logZ base (qs ++ [b])).length = (logZ base qs).length + (entB (base + qs.length + 1) b).length:=by rw [hX,List.length_append]
 obtain ⟨t,ht⟩:∃ t,t = (logZ base qs).length + d.toNat % ((logZ base (qs ++ [b])).length - (logZ base qs).length + 1):=⟨_,rfl⟩
 have htl:t ≤ (logZ base (qs ++ [b])).length:=by
  have:=Nat.mod_lt d.toNat (show (logZ base (qs ++ [b])).length - (logZ base qs).length + 1 > 0 by omega)
  omega
 have hcut:cutF d.toNat ⟨logZ base (qs ++ [b]),(logZ base qs).length⟩ = ⟨(logZ base (qs ++ [b])).take t,t⟩:=by unfold cutF; simp only [← ht]
 have htk:((logZ base (qs ++ [b])).take t).length = t:=by rw [List.length_take]; omega
 obtain ⟨D1,hD1⟩:∃ D1:Dsk,D1 = { D with fs:=tLay D.fs (logN mailN) ⟨(logZ base (qs ++ [b])).take t,t⟩ }:=⟨_,rfl⟩
 have fr:Free D1 (u + b.length + 30) (m + 1):=by
  have hul:=used_lay h.free.ok (logN mailN) ⟨(logZ base (qs ++ [b])).take t,t⟩
  have hll:=lay_len h.free.ok.srt (logN mailN) (⟨(logZ base (qs ++ [b])).take t,t⟩:Fil)
  have h2:=h.free.used
  have h4:=h.free.many
  have h5:=h.room
  have h3:=h.file.1
  have h6:((tLook D.fs (logN mailN)).getD .none).b = logZ base qs:=h3
  rw [h3] at hul
  simp only [htk] at hul
  rw [hD1]
  refine ⟨h.free.ok.lay _ _ (by simp only [htk]; omega) (by rw [h6]; simp only [htk]; omega) (fun _ => by omega) (by decide),h.free.left,by omega,?_⟩
  simp only [hll]
  split <;> omega
 have eC:dCrash E d = D1:=by
  have e:mapv (cutF d.toNat) E.fs = D1.fs:=tLook_ext (by unfold Srt mapv; rw [List.pairwise_map,hE]; exact h.free.ok.srt.tLay _ _) (by rw [hD1]; exact h.free.ok.srt.tLay _ _) fun s => by
   rw [tLook_mapv,hE,hD1]
   simp only [tLook_lay]
   by_cases s2:s = logN mailN
   ·rw [if_pos s2,if_pos s2,Option.map_some,hcut]
   ·rw [if_neg s2,if_neg s2]
    cases hx:tLook D.fs s with
    | none => rfl
    | some x => rw [Option.map_some,cutF_sy (h.sy s x hx)]
  unfold dCrash
  rw [e,hr,hD1]
  have:=h.free.left
  obtain ⟨r,fs,lf⟩:=D
  simp only at this ⊢
  rw [this]
 rw [eC]
 have sy1:Sy D1:=fun s x hx => by
  rw [hD1] at hx
  simp only [tLook_lay] at hx
  split at hx
  ·cases hx; exact htk.symm
  ·exact h.sy s x hx
 have hsh1:tLook D1.fs (shadow (imgN mailN)) = none:=by rw [hD1]; simp only [tLook_lay,if_neg hsl.symm]; exact h.sh
 have hig1:tLook D1.fs (imgN mailN) = tLook D.fs (imgN mailN):=by rw [hD1]; simp only [tLook_lay,if_neg him2]
 have hlg1:tLook D1.fs (logN mailN) = some ⟨(logZ base (qs ++ [b])).take t,t⟩:=by rw [hD1]; simp only [tLook_lay,if_pos]
 have himL:imgL D1 mailN = (base,data,0):=by
  have h1:=hq.hb
  have h3:=hq.hd
  rcases h.img with ⟨rfl,rfl,h2⟩ | h2
  ·exact imgL_none (hig1.trans h2)
  ·exact imgL_some (by omega) (by omega) (hig1.trans h2)
 obtain ⟨n,hn1,hn2,hn3,hn4⟩:∃ n,n ≤ (qs ++ [b]).length ∧ (logZ base ((qs ++ [b]).take n)).length ≤ t ∧ (n = (qs ++ [b]).length ∨ t < (logZ base ((qs ++ [b]).take (n + 1))).length) ∧ ((qs ++ [b]).take n = qs ∨ (qs ++ [b]).take n = qs ++ [b]):=by
  have hl1:(qs ++ [b]).length = qs.length + 1:=by simp
  have tk1:(qs ++ [b]).take qs.length = qs:=List.take_left' rfl
  have tk2:(qs ++ [b]).take (qs.length + 1) = qs ++ [b]:=List.take_of_length_le (by omega)
  by_cases hlt:t < (logZ base (qs ++ [b])).length
  ·exact ⟨qs.length,by omega,by rw [tk1]; omega,.inr (by rw [tk2]; exact hlt),.inl tk1⟩
  ·exact ⟨qs.length + 1,by omega,by rw [tk2]; omega,.inl (by omega),.inr tk2⟩
 have hents:∀ c ∈ qs ++ [b],c.length ≤ 2000:=fun c hc => by
  rcases List.mem_append.1 hc with hc | hc
  ·exact hq.he c hc
  ·rw [List.mem_singleton.1 hc]; exact hb
 have hlen1:(qs ++ [b]).length = qs.length + 1:=by simp
 have hsc:=scan_cut (entsP (base + 1) (qs ++ [b])) (entsP_mem hents (by omega) (by omega)) n t (t + 1) (by rw [entsP_len]; exact hn1) (by rw [entsP_take]; exact hn2) (by rw [entsP_len,entsP_take]; exact hn3) htl (by omega)
 rw [entsP_take] at hsc
 have hcut2:((logZ base (qs ++ [b])).take t).take (logZ base ((qs ++ [b]).take n)).length = logZ base ((qs ++ [b]).take n):=by
  have e:logZ base (qs ++ [b]) = logZ base ((qs ++ [b]).take n) ++ recsB (entsP (base + 1 + n) ((qs ++ [b]).drop n)):=by
   have:=entsP_app (base + 1) ((qs ++ [b]).take n) ((qs ++ [b]).drop n)
   rw [List.take_append_drop,List.length_take,Nat.min_eq_left hn1] at this
   unfold logZ
   rw [this]
   unfold recsB
   rw [List.flatMap_append]
  rw [List.take_take,Nat.min_eq_left hn2,e]
  exact List.take_left' rfl
 obtain ⟨la,htk2⟩:=takesP_next (base:=base) ((qs ++ [b]).take n) [] (-1) (base + 1) (by simp) (by rw [List.length_take]; omega) (fun b hb => by have:=hents b (List.mem_of_mem_take hb); omega) (.inl (by omega))
 rw [List.nil_append] at htk2
 have e0:logL D1 mailN base = logFin D1 (logN mailN) (logZ base ((qs ++ [b]).take n)).length t ((qs ++ [b]).take n):=by
  unfold logL
  rw [hlg1]
  simp only
  unfold logOf
  rw [htk]
  have hsc':scanL (t + 1) ((logZ base (qs ++ [b])).take t) = (entsP (base + 1) ((qs ++ [b]).take n),(logZ base ((qs ++ [b]).take n)).length):=hsc
  rw [hsc']
  simp only
  rw [htk2]
 obtain ⟨D2,e2,f2,r2,sy2,x2,o2⟩:∃ D2,cutIf D1 (logN mailN) (logZ base ((qs ++ [b]).take n)).length t = (D2,0) ∧ Free D2 (u + b.length + 30) (m + 1) ∧ D2.room = D1.room ∧ Sy D2 ∧ tLook D2.fs (logN mailN) = some ⟨logZ base ((qs ++ [b]).take n),(logZ base ((qs ++ [b]).take n)).length⟩ ∧ ∀ s,s ≠ logN mailN → tLook D2.fs s = tLook D1.fs s:=by
  by_cases hg:(logZ base ((qs ++ [b]).take n)).length < t
  ·have g1:=trunc_free (logZ base ((qs ++ [b]).take n)).length fr.left lzs.2.2.1 hlg1 (by rw [htk]; omega)
   rw [hcut2] at g1
   have h1:=fr.relay hlg1 (logZ base ((qs ++ [b]).take n)) (min t (logZ base ((qs ++ [b]).take n)).length) (by omega) (by rw [htk]; omega)
   have hx1:tLook (Dsk.fs { D1 with fs:=tLay D1.fs (logN mailN) ⟨logZ base ((qs ++ [b]).take n),min t (logZ base ((qs ++ [b]).take n)).length⟩ }) (logN mailN) = some ⟨logZ base ((qs ++ [b]).take n),min t (logZ base ((qs ++ [b]).take n)).length⟩:=by simp only [tLook_lay,if_pos]
   have g2:=step_free (D:={ D1 with fs:=tLay D1.fs (logN mailN) ⟨logZ base ((qs ++ [b]).take n),min t (logZ base ((qs ++ [b]).take n)).length⟩ }) (s:=logN mailN) fSync h1.left (by exact h1.left) lzs.2.2.1 hx1
   have h2:=h1.relay hx1 (logZ base ((qs ++ [b]).take n)) (logZ base ((qs ++ [b]).take n)).length (Nat.le_refl _) (Nat.le_refl _)
   refine ⟨_,?_,h2,rfl,?_,by simp only [tLook_lay,if_pos],fun s hs => by simp only [tLook_lay,if_neg hs]⟩
   ·unfold cutIf
    rw [if_pos hg]
    unfold cutS
    rw [g1,if_neg (fun h => h rfl)]
    simp only
    rw [g2]
    rfl
   ·intro s x hx
    simp only [tLook_lay] at hx
    by_cases s2:s = logN mailN
    ·rw [if_pos s2] at hx; cases hx; rfl
    ·rw [if_neg s2,if_neg s2] at hx; exact sy1 s x hx
  ·have ht2:(logZ base ((qs ++ [b]).take n)).length = t:=by omega
   refine ⟨D1,by unfold cutIf; rw [if_neg hg],fr,rfl,sy1,?_,fun _ _ => rfl⟩
   rw [hlg1,← hcut2,ht2,List.take_take,Nat.min_self]
   rw [htk]
 have him3:tLook D2.fs (imgN mailN) = tLook D.fs (imgN mailN):=(o2 _ him2).trans hig1
 have hsh3:tLook D2.fs (shadow (imgN mailN)) = none:=(o2 _ hsl.symm).trans hsh1
 have hroom2:D2.room = 268435456:=by rw [r2,hD1]; exact h.room
 have fin:∃ D4,opn D1 mailN = (D4,0,⟨base,data,(qs ++ [b]).take n,false⟩) ∧ Lz D4 base data ((qs ++ [b]).take n) (u + b.length + 30) (m + 1):=by
  have e3:logFin D1 (logN mailN) (logZ base ((qs ++ [b]).take n)).length t ((qs ++ [b]).take n) = ((emptyIf D2 (logN mailN) ((qs ++ [b]).take n)).1,(emptyIf D2 (logN mailN) ((qs ++ [b]).take n)).2,(qs ++ [b]).take n):=by
   unfold logFin
   rw [e2,if_neg (fun h => h rfl)]
  rw [e3] at e0
  have hs2:=f2.ok.srt
  generalize (qs ++ [b]).take n = q4 at *
  by_cases hq0:q4 = []
  ·have g2:=step_free (D:=D2) (s:=logN mailN) fRemove f2.left f2.left lzs.2.2.1 x2
   have ee:emptyIf D2 (logN mailN) q4 = (fRemove D2 (logN mailN) ⟨logZ base q4,(logZ base q4).length⟩,0):=by
    unfold emptyIf
    rw [if_pos (by rw [hq0]; rfl),g2]
   rw [ee] at e0
   refine ⟨_,opn_parts hsh1 himL e0,f2.gone _,hroom2,?_,?_,.inl ⟨hq0,?_⟩,sy2.gone hs2 _⟩
   ·simp only [fRemove,tLook_gone hs2,if_neg hsl.symm]; exact hsh3
   ·simp only [fRemove,tLook_gone hs2,if_neg him2,him3]; exact h.img
   ·simp only [fRemove,tLook_gone hs2,if_pos]
  ·have ee:emptyIf D2 (logN mailN) q4 = (D2,0):=by
    unfold emptyIf
    rw [if_neg (fun e => hq0 (List.length_eq_zero_iff.1 e))]
   rw [ee] at e0
   exact ⟨D2,opn_parts hsh1 himL e0,f2,hroom2,hsh3,by rw [him3]; exact h.img,.inr x2,sy2⟩
 obtain ⟨D4,e4,h4⟩:=fin
 exact ⟨D4,base,data,_,e4,h4,hn4.imp (fun e => ⟨rfl,rfl,e⟩) fun e => ⟨rfl,rfl,e⟩⟩
/-- The disk with one more entry. -/
theorem Lz.pushed {D:Dsk} {base u m:Nat} {data:List UInt8} {qs:List (List UInt8)} {b:List UInt8} (h:Lz D base data qs u m) (hq:Bq base data qs) (hb:b.length ≤ 2000) (hu:u + b.length + 30 ≤ 268435456) (hm:m < 4095) :
  Lz { D with fs:=tLay D.fs (logN mailN) ⟨logZ base (qs ++ [b]),(logZ base (qs ++ [b])).length⟩ } base data (qs ++ [b]) (u + b.length + 30) (m + 1):=by
 have hb1:=hq.hb
 have hql:=hq.hq
 have hX:=logZ_push base qs b
 have hel:=entZ_len (n:=base + qs.length + 1) (b:=b) (by omega) (by omega)
 have him2:=img_log mailN
 have hsl:=log_sh mailN
 have hfl:(logZ base (qs ++ [b])).length = (logZ base qs).length + (entB (base + qs.length + 1) b).length:=by rw [hX,List.length_append]
 have hul:=used_lay h.free.ok (logN mailN) ⟨logZ base (qs ++ [b]),(logZ base (qs ++ [b])).length⟩
 have hll:=lay_len h.free.ok.srt (logN mailN) (⟨logZ base (qs ++ [b]),(logZ base (qs ++ [b])).length⟩:Fil)
 have h2:=h.free.used
 have h4:=h.free.many
 have h5:=h.room
 have h3:=h.file.1
 have h6:((tLook D.fs (logN mailN)).getD .none).b = logZ base qs:=h3
 rw [h3] at hul
 simp only at hul
 refine ⟨⟨h.free.ok.lay _ _ (Nat.le_refl _) (by rw [h6]; simp only; omega) (fun _ => by omega) (by decide),h.free.left,by omega,?_⟩,h.room,?_,?_,.inr ?_,h.sy.lay _ _⟩
 ·simp only [hll]
  split <;> omega
 ·simp only [tLook_lay,if_neg hsl.symm]; exact h.sh
 ·simp only [tLook_lay,if_neg him2]; exact h.img
 ·simp only [tLook_lay,if_pos]
theorem Bk.same {D E:Dsk} {base u u' m m':Nat} {data:List UInt8} {qs:List (List UInt8)} (h:Lz D base data qs u m) (hq:Bq base data qs) (hf:E.fs = D.fs) (hr:E.room = D.room) (hu:u ≤ u') (hm:m ≤ m') (b1:Nat) (d1:List UInt8) (q1:List (List UInt8)):Bk E base data qs b1 d1 q1 u' m':=fun d ok => by
 rw [crash_sy h.free.ok.srt h.sy h.free.left hf hr d]
 obtain ⟨D4,e4,h4⟩:=h.op hq
 exact ⟨D4,base,data,qs,e4,h4.mono hu hm,.inl ⟨rfl,rfl,rfl⟩⟩
/-- An entry appended. -/
theorem Lz.push {D:Dsk} {base u m:Nat} {data:List UInt8} {qs:List (List UInt8)} {b:List UInt8} {lf:Option Nat} (h:Lz D base data qs u m) (hq:Bq base data qs) (hb:b.length ≤ 2000) (hu:u + b.length + 30 ≤ 268435456) (hm:m < 4095) :
  (∃ D' lf',lApp { D with left:=lf } mailN ⟨base,data,qs,false⟩ b = ({ D' with left:=lf' },⟨base,data,qs ++ [b],false⟩,base + qs.length + 1,0) ∧ Lz D' base data (qs ++ [b]) (u + b.length + 30) (m + 1) ∧ (Fz lf → Fz lf') ∧ (lf = none → lf' = none)) ∨
  lf ≠ none ∧ ∃ E,lApp { D with left:=lf } mailN ⟨base,data,qs,false⟩ b = (E,⟨base,data,qs,true⟩,0,9) ∧ Bk E base data qs base data (qs ++ [b]) (u + b.length + 30) (m + 1):=by
 have hb1:=hq.hb
 have hql:=hq.hq
 have hll:(⟨base,data,qs,false⟩:Led).last = base + qs.length:=rfl
 have hX:=logZ_push base qs b
 have hel:=entZ_len (n:=base + qs.length + 1) (b:=b) (by omega) (by omega)
 obtain ⟨hfile,hl⟩:=h.file
 have hp:=h.pushed hq hb hu hm
 have e0:lApp { D with left:=lf } mailN ⟨base,data,qs,false⟩ b = apL ⟨base,data,qs,false⟩ (apS (dAppend { D with left:=lf } (logN mailN) (entB (base + qs.length + 1) b)) (logN mailN)) b:=by
  unfold lApp
  rw [if_neg (by simp),if_neg (by rw [hll]; omega),hll]
 rw [e0]
 have hbl:=lzs.2.2.1
 have m1:mayL { D with left:=lf } [logN mailN] = if lf = some 0 then 9 else 0:=mayL_good (by simp [hbl])
 by_cases l0:lf = some 0
 ·have:dAppend { D with left:=lf } (logN mailN) (entB (base + qs.length + 1) b) = ({ D with left:=lf },9):=by
   unfold dAppend
   rw [m1,if_pos l0,if_pos (show (9:Nat) ≠ 0 by decide)]
  rw [this]
  unfold apS
  rw [if_pos (show (9:Nat) ≠ 0 by decide)]
  unfold apL
  rw [if_pos (show (9:Nat) ≠ 0 by decide)]
  exact .inr ⟨by rw [l0]; simp,_,rfl,Bk.same h hq rfl rfl (by omega) (by omega) _ _ _⟩
 ·have hus:=h.free.used
  have hms:=h.free.many
  have hrm:=h.room
  have hA:dAppend { D with left:=lf } (logN mailN) (entB (base + qs.length + 1) b) = ({ D with fs:=tLay D.fs (logN mailN) ⟨logZ base (qs ++ [b]),(logZ base qs).length⟩,left:=lf.map (· - 1) },0):=by
   unfold dAppend
   rw [m1,if_neg l0,if_neg (fun h => h rfl),if_neg (fun h => h.elim (fun h => by have:D.room < D.used + (entB (base + qs.length + 1) b).length:=h; omega) fun h => by have:4096 ≤ D.fs.length:=h.2; omega)]
   have e1:((tLook D.fs (logN mailN)).getD .none).b = logZ base qs:=hfile
   have e2:((tLook D.fs (logN mailN)).getD .none).l = (logZ base qs).length:=hl
   simp only [e1,e2,hX]
   rfl
  rw [hA]
  unfold apS
  rw [if_neg (fun h => h rfl)]
  simp only
  obtain ⟨D1,hD1⟩:∃ D1:Dsk,D1 = { D with fs:=tLay D.fs (logN mailN) ⟨logZ base (qs ++ [b]),(logZ base qs).length⟩,left:=lf.map (· - 1) }:=⟨_,rfl⟩
  rw [← hD1]
  have hx1:tLook D1.fs (logN mailN) = some ⟨logZ base (qs ++ [b]),(logZ base qs).length⟩:=by rw [hD1]; simp only [tLook_lay,if_pos]
  have m2:mayL D1 [logN mailN] = if D1.left = some 0 then 9 else 0:=mayL_good (by simp [hbl])
  by_cases l1:D1.left = some 0
  ·have hS:dEach fSync D1 [logN mailN] = (D1,9):=by
    simp only [dEach,dStep,m2,if_pos l1]
    simp
   rw [hS]
   unfold apL
   rw [if_pos (show (9:Nat) ≠ 0 by decide)]
   refine .inr ⟨?_,_,rfl,h.half hq hb hu hm (by rw [hD1]) (by rw [hD1])⟩
   intro e
   rw [hD1,e] at l1
   cases l1
  ·have hS:dEach fSync D1 [logN mailN] = ((fSync D1 (logN mailN) ⟨logZ base (qs ++ [b]),(logZ base qs).length⟩).done,0):=by
    simp only [dEach,dStep,m2,if_neg l1,hx1]
    simp
   rw [hS]
   unfold apL
   rw [if_neg (fun h => h rfl)]
   refine .inl ⟨_,(lf.map (· - 1)).map (· - 1),?_,hp,fun hf => hf.dn.dn,fun e => by rw [e]; rfl⟩
   rw [hll]
   have e3:(fSync D1 (logN mailN) ⟨logZ base (qs ++ [b]),(logZ base qs).length⟩).done = { D with fs:=tLay D.fs (logN mailN) ⟨logZ base (qs ++ [b]),(logZ base (qs ++ [b])).length⟩,left:=(lf.map (· - 1)).map (· - 1) }:=by
    rw [hD1]
    unfold fSync Dsk.done
    simp only [lay_lay h.free.ok.srt]
   rw [e3]
/-- A disk behind a crash but for its shadow. -/
theorem opn_but {E D1:Dsk} (h1:Srt D1.fs) (sy:Sy D1) (hl:D1.left = none) (hs:tLook D1.fs (shadow (imgN mailN)) = none) (hr:E.room = D1.room) (h:∀ t,t ≠ shadow (imgN mailN) → tLook E.fs t = tLook D1.fs t) (d:Int) (ok:(dCrash E d).Ok):opn (dCrash E d) mailN = opn D1 mailN:=by
 rw [opn_sh ok rfl (by decide)]
 have e:({ dCrash E d with fs:=tGone (dCrash E d).fs (shadow (imgN mailN)) }:Dsk) = D1:=by
  have:tGone (dCrash E d).fs (shadow (imgN mailN)) = D1.fs:=tLook_ext (ok.srt.tGone _) h1 fun t => by
   rw [tLook_gone ok.srt]
   unfold dCrash
   simp only [tLook_mapv]
   by_cases ht:t = shadow (imgN mailN)
   ·rw [if_pos ht,ht,hs]
   ·rw [if_neg ht,h t ht]
    cases hx:tLook D1.fs t with
    | none => rfl
    | some x => rw [Option.map_some,cutF_sy (sy t x hx)]
  rw [this]
  unfold dCrash
  obtain ⟨r,fs,lf⟩:=D1
  simp only at hr hl ⊢
  rw [hr,hl]
 rw [e]
/-- An image, and a log whose entries it has, opened. -/
theorem opn_oldZ {D:Dsk} {n u m base:Nat} {data:List UInt8} {qs:List (List UInt8)} (h:Free D u m) (hr:D.room = 268435456) (hs:tLook D.fs (shadow (imgN mailN)) = none) (hi:tLook D.fs (imgN mailN) = some ⟨imgZ n data,(imgZ n data).length⟩)
  (hl:tLook D.fs (logN mailN) = some ⟨logZ base qs,(logZ base qs).length⟩) (sy:Sy D) (hn:n ≤ 100000) (hpn:base + qs.length ≤ n) (hb:data.length ≤ 500000) (hqb:∀ b ∈ qs,b.length ≤ 2000) :
  ∃ D',opn D mailN = (D',0,⟨n,data,[],false⟩) ∧ Lz D' n data [] u m:=by
 have e3:=imgL_some (p:=mailN) (by omega) (by omega) hi
 obtain ⟨la,htk⟩:=takesP_old (base:=n) qs (-1) (base + 1) (by omega) (by omega) (by omega) (fun b hb => by have:=hqb b hb; omega) (.inl (by omega))
 have hsc:=scan_all (entsP (base + 1) qs) (entsP_mem hqb (by omega) (by omega))
 obtain ⟨D',e4,f4,r4,n4,z4,o4⟩:=logOf_free h lzs.2.2.1 hl hsc htk
 refine ⟨D',opn_parts hs e3 (by unfold logL; rw [hl]; exact e4),f4,r4.trans hr,by rw [o4 _ (log_sh mailN).symm,hs],.inr (by rw [o4 _ (img_log mailN)]; exact hi),.inl ⟨rfl,z4 rfl⟩,fun t x hx => ?_⟩
 by_cases ht:t = logN mailN
 ·rw [ht,z4 rfl] at hx; cases hx
 ·rw [o4 t ht] at hx; exact sy t x hx
/-- An image written. -/
theorem Lz.write {D:Dsk} {base u m n:Nat} {data b:List UInt8} {qs:List (List UInt8)} {lf:Option Nat} (h:Lz D base data qs u m) (hf:Fz lf) (hq:Bq base data qs) (hn:base + qs.length ≤ n) (hn2:n ≤ 100000) (hb:b.length ≤ 500000) (hu:u + b.length + 30 ≤ 268435456) (hm:m < 4095) :
  (∃ D' lf',lWrite { D with left:=lf } mailN ⟨base,data,qs,false⟩ n b = ({ D' with left:=lf' },⟨n,b,[],false⟩,0) ∧ Lz D' n b [] (u + b.length + 30) (m + 1) ∧ (lf = none → lf' = none)) ∨
  lf ≠ none ∧ ∃ E,lWrite { D with left:=lf } mailN ⟨base,data,qs,false⟩ n b = (E,⟨base,data,qs,true⟩,9) ∧ Bk E base data qs n b [] (u + b.length + 30) (m + 1):=by
 have hb1:=hq.hb
 have hql:=hq.hq
 have okF:Dsk.Ok { D with left:=lf }:=⟨h.free.ok.srt,h.free.ok.room,h.free.ok.used,h.free.ok.many,h.free.ok.lasts,fun k hk => hf k hk,h.free.ok.names⟩
 have hcl:=entry_len n b (by omega) (by omega)
 have hil:=imgZ_len (n:=n) (b:=b) (by omega) (by omega)
 have hus:=h.free.used
 have hms:=h.free.many
 have hroom:=h.room
 have hll:(⟨base,data,qs,false⟩:Led).last = base + qs.length:=rfl
 have hsv:=kSave_out okF (s:=imgN mailN) (p:=numB n ++ rowB b) (by decide) (by decide) (by omega) h.sh (by show D.used + _ + _ ≤ D.room; omega) (by show D.fs.length < 4096; omega)
 have hsr:=kSave_room { D with left:=lf } (imgN mailN) (numB n ++ rowB b)
 unfold lWrite
 rw [if_neg (by simp),if_neg (by rw [hll]; omega),if_neg (by omega),Int.toNat_natCast]
 generalize kSave { D with left:=lf } (imgN mailN) (numB n ++ rowB b) = R at *
 obtain ⟨DR,er⟩:=R
 simp only at hsv hsr
 have him:=img_log mailN
 have hsl:=log_sh mailN
 have his:=img_sh mailN
 rcases hsv with ⟨rfl,hfs,_,hleft⟩ | ⟨rfl,hln,hfs⟩
 ·have hw:wrS (DR,0) (logN mailN) = rmvs DR [logN mailN]:=by unfold wrS; rw [if_neg (fun h => h rfl)]
  rw [hw]
  have hfs:DR.fs = tLay D.fs (imgN mailN) ⟨imgZ n b,(imgZ n b).length⟩:=hfs
  obtain ⟨D1,hD1⟩:∃ D1:Dsk,D1 = { D with fs:=tLay D.fs (imgN mailN) ⟨imgZ n b,(imgZ n b).length⟩ }:=⟨_,rfl⟩
  have fl:Free D1 (u + b.length + 30) (m + 1):=by
   rw [hD1]
   exact (h.free.lay (s:=imgN mailN) (b:=imgZ n b) (l:=(imgZ n b).length) (Nat.le_refl _) (by omega) (by omega) (by decide)).mono (by omega) (Nat.le_refl _)
  have sy1:Sy D1:=by rw [hD1]; exact h.sy.lay _ _
  have hfs1:DR.fs = D1.fs:=by rw [hfs,hD1]
  have hr1:DR.room = D1.room:=by rw [hsr,hD1]
  have hl1:D1.left = none:=fl.left
  have hs1:=fl.ok.srt
  have hlg:tLook D1.fs (logN mailN) = tLook D.fs (logN mailN):=by rw [hD1]; simp only [tLook_lay,if_neg him.symm]
  have hsh1:tLook D1.fs (shadow (imgN mailN)) = none:=by rw [hD1]; simp only [tLook_lay,if_neg his.symm]; exact h.sh
  have hig1:tLook D1.fs (imgN mailN) = some ⟨imgZ n b,(imgZ n b).length⟩:=by rw [hD1]; simp only [tLook_lay,if_pos]
  have hroom1:D1.room = 268435456:=by rw [hD1]; exact hroom
  have st:Lz { D1 with fs:=tGone D1.fs (logN mailN) } n b [] (u + b.length + 30) (m + 1) :=
   ⟨fl.gone _,hroom1,by simp only [tLook_gone hs1,if_neg hsl.symm]; exact hsh1,.inr (by simp only [tLook_gone hs1,if_neg him]; exact hig1),.inl ⟨rfl,by simp only [tLook_gone hs1,if_pos]⟩,sy1.gone hs1 _⟩
  have back:∀ D3:Dsk,D3.fs = tGone DR.fs (logN mailN) → D3.room = DR.room → D3 = { ({ D1 with fs:=tGone D1.fs (logN mailN) }:Dsk) with left:=D3.left }:=fun D3 h1 h2 => by
   obtain ⟨r3,f3,l3⟩:=D3
   simp only at h1 h2 ⊢
   rw [h1,h2,hfs1,hr1]
  cases hx:tLook D.fs (logN mailN) with
  | none =>
   have hr:rmvs DR [logN mailN] = (DR,0):=by simp [rmvs,kW1_none (by rw [hfs1,hlg,hx])]
   rw [hr]
   unfold wrL
   rw [if_neg (fun h => h rfl)]
   refine .inl ⟨_,DR.left,?_,st,hleft⟩
   rw [← back DR (gone_none (by rw [hfs1,hlg,hx])).symm rfl]
  | some x =>
   have hbl:=lzs.2.2.1
   have hmay:mayL DR [logN mailN] = if DR.left = some 0 then 9 else 0:=mayL_good (by simp [hbl])
   have hxR:tLook DR.fs (logN mailN) = some x:=by rw [hfs1,hlg,hx]
   have hk:kW1 DR (logN mailN) = dEach fRemove DR [logN mailN]:=kW1_some hxR
   by_cases l0:DR.left = some 0
   ·have hst:dEach fRemove DR [logN mailN] = (DR,9):=by
     simp only [dEach,dStep,hmay,if_pos l0]
     simp
    have hr:rmvs DR [logN mailN] = (DR,9):=by simp [rmvs,hk,hst]
    rw [hr]
    unfold wrL
    rw [if_pos (show (9:Nat) ≠ 0 by decide)]
    refine .inr ⟨fun e => (by have:=hleft e; rw [l0] at this; cases this),_,rfl,fun d ok => ?_⟩
    have hlog:tLook D.fs (logN mailN) = some ⟨logZ base qs,(logZ base qs).length⟩:=by
     rcases h.log with ⟨_,h2⟩ | h2
     ·rw [hx] at h2; cases h2
     ·exact h2
    obtain ⟨D4,e4,s4⟩:=opn_oldZ (base:=base) (qs:=qs) fl hroom1 hsh1 hig1 (hlg.trans hlog) sy1 hn2 hn hb hq.he
    refine ⟨D4,n,b,[],?_,s4,.inr ⟨rfl,rfl,rfl⟩⟩
    rw [crash_sy hs1 sy1 hl1 hfs1 hr1 d]
    exact e4
   ·have hst:dEach fRemove DR [logN mailN] = ((fRemove DR (logN mailN) x).done,0):=by
     simp only [dEach,dStep,hmay,if_neg l0,hxR]
     simp
    have hr:rmvs DR [logN mailN] = ((fRemove DR (logN mailN) x).done,0):=by simp [rmvs,hk,hst]
    rw [hr]
    unfold wrL
    rw [if_neg (fun h => h rfl)]
    refine .inl ⟨_,(fRemove DR (logN mailN) x).done.left,?_,st,fun e => ?_⟩
    ·rw [← back (fRemove DR (logN mailN) x).done rfl rfl]
    ·show DR.left.map _ = none
     rw [hleft e]; rfl
 ·have hw:wrS (DR,9) (logN mailN) = (DR,9):=by unfold wrS; rw [if_pos (show (9:Nat) ≠ 0 by decide)]
  rw [hw]
  unfold wrL
  rw [if_pos (show (9:Nat) ≠ 0 by decide)]
  refine .inr ⟨hln,_,rfl,fun d ok => ?_⟩
  obtain ⟨D4,e4,s4⟩:=h.op hq
  refine ⟨D4,base,data,qs,?_,s4.mono (by omega) (by omega),.inl ⟨rfl,rfl,rfl⟩⟩
  rw [opn_but h.free.ok.srt h.sy h.free.left h.sh hsr (fun t ht => hfs t ht) d ok]
  exact e4
/-- Changes done one behind the other. -/
inductive Rp:Stt → List (List UInt8) → Stt → Prop
 | nil (T:Stt):Rp T [] T
 | cons {T T':Stt} {c:Chg} {es:List (List UInt8)} (h1:chgOk c = true) (h2:(plan T c).1 = 0) (h3:Rp (plan T c).2.2 es T'):Rp T (encC c :: es) T'
theorem Rp.snoc {T T':Stt} {c:Chg} {es:List (List UInt8)} (h:Rp T es T') (h1:chgOk c = true) (h2:(plan T' c).1 = 0):Rp T (es ++ [encC c]) (plan T' c).2.2:=by
 induction h with
 | nil T => exact .cons h1 h2 (.nil _)
 | cons a b c ih => exact .cons a b (ih h2)
theorem Rp.ok {T T':Stt} {es:List (List UInt8)} (h:Rp T es T') (ok:T.Ok):T'.Ok:=by
 induction h with
 | nil T => exact ok
 | cons a b c ih => exact ih (plan_ok ok a)
theorem Rp.len {T T':Stt} {es:List (List UInt8)} (h:Rp T es T'):∀ b ∈ es,b.length ≤ 2000:=by
 induction h with
 | nil T => simp
 | cons a b c ih =>
  intro x hx
  rcases List.mem_cons.1 hx with rfl | hx
  ·exact encC_len (chgOk_ok a)
  ·exact ih x hx
/-- What an image stands for; what a ledger stands for. -/
def Im (base:Nat) (data:List UInt8) (T:Stt):Prop:=(base = 0 ∧ data = [] ∧ T = Stt.zero) ∨ (data = imgS T ∧ T.Ok)
def Gd (base:Nat) (data:List UInt8) (qs:List (List UInt8)) (T:Stt):Prop:=∃ T0,Im base data T0 ∧ Rp T0 qs T
theorem Im.ok {base:Nat} {data:List UInt8} {T:Stt} (h:Im base data T):T.Ok:=by
 rcases h with ⟨_,_,rfl⟩ | ⟨_,h⟩
 ·exact Stt.Ok.zero
 ·exact h
theorem Im.len {base:Nat} {data:List UInt8} {T:Stt} (h:Im base data T):data.length ≤ 500000:=by
 rcases h with ⟨_,rfl,_⟩ | ⟨rfl,h⟩
 ·simp
 ·exact imgS_len h
theorem Gd.ok {base:Nat} {data:List UInt8} {qs:List (List UInt8)} {T:Stt} (h:Gd base data qs T):T.Ok:=by
 obtain ⟨T0,h1,h2⟩:=h
 exact h2.ok h1.ok
theorem Gd.bq {base:Nat} {data:List UInt8} {qs:List (List UInt8)} {T:Stt} (h:Gd base data qs T) (hk:base + qs.length ≤ 100000):Bq base data qs:=by
 obtain ⟨T0,h1,h2⟩:=h
 exact ⟨by omega,h1.len,by omega,h2.len⟩
theorem Gd.zero:Gd 0 [] [] Stt.zero:=⟨Stt.zero,.inl ⟨rfl,rfl,rfl⟩,.nil _⟩
/-- A store that lives: what its ledger says is its state. -/
def Al (S:Sto) (u m k:Nat):Prop:=∃ D0 lf base data qs,S = ⟨{ D0 with left:=lf },⟨base,data,qs,false⟩,S.T,false⟩ ∧ Lz D0 base data qs u m ∧ Gd base data qs S.T ∧ base + qs.length ≤ k
/-- A disk behind a crash: one of two states. -/
def Dd (E:Dsk) (T T':Stt) (u m k:Nat):Prop:=∀ d,(dCrash E d).Ok → ∃ D4 b4 d4 q4 T4,opn (dCrash E d) mailN = (D4,0,⟨b4,d4,q4,false⟩) ∧ Lz D4 b4 d4 q4 u m ∧ Gd b4 d4 q4 T4 ∧ (T4 = T ∨ T4 = T') ∧ b4 + q4.length ≤ k
theorem Al.mono {S:Sto} {u m k u' m' k':Nat} (h:Al S u m k) (hu:u ≤ u') (hm:m ≤ m') (hk:k ≤ k'):Al S u' m' k':=by
 obtain ⟨D0,lf,base,data,qs,h1,h2,h3,h4⟩:=h
 exact ⟨D0,lf,base,data,qs,h1,h2.mono hu hm,h3,by omega⟩
theorem Dd.mono {E:Dsk} {T T':Stt} {u m k u' m' k':Nat} (h:Dd E T T' u m k) (hu:u ≤ u') (hm:m ≤ m') (hk:k ≤ k'):Dd E T T' u' m' k':=fun d ok => by
 obtain ⟨D4,b4,d4,q4,T4,h1,h2,h3,h4,h5⟩:=h d ok
 exact ⟨D4,b4,d4,q4,T4,h1,h2.mono hu hm,h3,h4,by omega⟩
/-- A store that lives, behind a crash. -/
theorem Al.dd {S:Sto} {u m k:Nat} (h:Al S u m k) (hk:k ≤ 100000) (T':Stt):Dd S.D S.T T' u m k:=fun d ok => by
 obtain ⟨D0,lf,base,data,qs,h1,h2,h3,h4⟩:=h
 have hD:S.D = { D0 with left:=lf }:=by rw [h1]
 have hc:dCrash S.D d = D0:=by rw [hD]; exact h2.crash lf d
 rw [hc]
 obtain ⟨D4,e4,h5⟩:=h2.op (h3.bq (by omega))
 exact ⟨D4,base,data,qs,S.T,e4,h5,h3,.inl rfl,h4⟩
theorem Al.fresh:Al Sto.fresh 0 0 0:=⟨Dsk.fresh,none,0,[],[],rfl,⟨⟨Dsk.fresh_ok,rfl,Nat.le_refl _,Nat.le_refl _⟩,rfl,rfl,.inl ⟨rfl,rfl,rfl⟩,.inl ⟨rfl,rfl⟩,fun t x h => by cases h⟩,Gd.zero,by simp⟩
/-- Its step: refused; done; or it has died. -/
theorem Al.step {S:Sto} {u m k:Nat} (h:Al S u m k) (hf:Fz S.D.left) (c:Chg) (hu:u + 600000 ≤ 268435456) (hm:m + 2 < 4096) (hk:k < 90000) :
  (chgOk c = false ∧ doA S c = (S,0,1)) ∨ (chgOk c = true ∧ (plan S.T c).1 ≠ 0 ∧ doA S c = (S,0,(plan S.T c).1)) ∨
  (chgOk c = true ∧ (plan S.T c).1 = 0 ∧ ∃ S',doA S c = (S',(plan S.T c).2.1,0) ∧ S'.T = (plan S.T c).2.2 ∧ Al S' (u + 600000) (m + 2) (k + 1) ∧ (S.D.left = none → S'.D.left = none)) ∨
  (chgOk c = true ∧ (plan S.T c).1 = 0 ∧ S.D.left ≠ none ∧ ∃ S',doA S c = (S',0,9) ∧ S'.dead = true ∧ Dd S'.D S.T (plan S.T c).2.2 (u + 600000) (m + 2) (k + 1)):=by
 obtain ⟨D0,lf,base,data,qs,hS,h2,h3,h4⟩:=h
 have hbq:=h3.bq (by omega)
 have hok:=h3.ok
 obtain ⟨SD,SL,ST,Sd⟩:=S
 simp only [Sto.mk.injEq] at hS
 obtain ⟨rfl,rfl,_,rfl⟩:=hS
 simp only at hf h3 hok ⊢
 unfold doA
 simp only
 rw [if_neg (by simp)]
 cases hc:chgOk c with
 | false => exact .inl ⟨rfl,by simp⟩
 | true =>
  rw [if_neg (by simp)]
  by_cases hp:(plan ST c).1 = 0
  ·refine .inr (.inr ?_)
   rw [if_neg (by simpa using hp)]
   have hl:=encC_len (chgOk_ok hc)
   have hpo:=plan_ok hok hc
   have h3':Gd base data (qs ++ [encC c]) (plan ST c).2.2:=by
    obtain ⟨T0,a,b⟩:=h3
    exact ⟨T0,a,b.snoc hc hp⟩
   have hql:(qs ++ [encC c]).length = qs.length + 1:=by simp
   rcases h2.push (lf:=lf) hbq hl (by omega) (by omega) with ⟨D1,lf1,e1,z1,fz1,ln1⟩ | ⟨hln,E,e1,bk⟩
   ·rw [e1]
    unfold doB
    simp only
    rw [if_neg (by simp)]
    unfold doW
    simp only
    have hlast:Led.last ⟨base,data,qs ++ [encC c],false⟩ = base + qs.length + 1:=by unfold Led.last; simp only [hql]; omega
    rw [hlast]
    by_cases h20:base + qs.length + 1 < base + 20
    ·rw [if_pos h20]
     exact .inl ⟨trivial,hp,_,rfl,rfl,⟨D1,lf1,base,data,qs ++ [encC c],rfl,z1.mono (by omega) (by omega),h3',by rw [hql]; omega⟩,ln1⟩
    ·rw [if_neg h20]
     have hil:=imgS_len hpo
     have hbq1:=h3'.bq (by rw [hql]; omega)
     rcases z1.write (lf:=lf1) (n:=base + qs.length + 1) (b:=imgS (plan ST c).2.2) (fz1 hf) hbq1 (by rw [hql]; omega) (by omega) hil (by omega) (by omega) with ⟨D2,lf2,e2,z2,ln2⟩ | ⟨hln2,E,e2,bk⟩
     ·rw [e2]
      unfold doX
      simp only
      rw [if_neg (by simp)]
      exact .inl ⟨trivial,hp,_,rfl,rfl,⟨D2,lf2,_,_,[],rfl,z2.mono (by omega) (by omega),⟨_,.inr ⟨rfl,hpo⟩,.nil _⟩,by simp; omega⟩,fun e => ln2 (ln1 e)⟩
     ·rw [e2]
      unfold doX
      simp only
      rw [if_pos (by simp)]
      refine .inr ⟨trivial,hp,fun e => hln2 (ln1 e),_,rfl,rfl,fun d ok => ?_⟩
      obtain ⟨D4,b4,d4,q4,e4,z4,hor⟩:=bk d ok
      refine ⟨D4,b4,d4,q4,(plan ST c).2.2,e4,z4.mono (by omega) (by omega),?_,.inr rfl,?_⟩
      ·rcases hor with ⟨rfl,rfl,rfl⟩ | ⟨rfl,rfl,rfl⟩
       ·exact h3'
       ·exact ⟨_,.inr ⟨rfl,hpo⟩,.nil _⟩
      ·rcases hor with ⟨rfl,rfl,rfl⟩ | ⟨rfl,rfl,rfl⟩
       ·rw [hql]; omega
       ·simp; omega
   ·rw [e1]
    unfold doB
    simp only
    rw [if_pos (by simp)]
    refine .inr ⟨trivial,hp,hln,_,rfl,rfl,fun d ok => ?_⟩
    obtain ⟨D4,b4,d4,q4,e4,z4,hor⟩:=bk d ok
    rcases hor with ⟨rfl,rfl,rfl⟩ | ⟨rfl,rfl,rfl⟩
    ·exact ⟨D4,_,_,_,ST,e4,z4.mono (by omega) (by omega),h3,.inl rfl,by omega⟩
    ·exact ⟨D4,_,_,_,_,e4,z4.mono (by omega) (by omega),h3',.inr rfl,by rw [hql]; omega⟩
  ·refine .inr (.inl ⟨rfl,hp,?_⟩)
   rw [if_pos hp]
end Go.Proofs.YtellahclbhfdiaaGreatDoor
