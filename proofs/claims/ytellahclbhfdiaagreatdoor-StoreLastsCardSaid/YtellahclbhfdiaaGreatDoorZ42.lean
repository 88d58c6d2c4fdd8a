/-
  A ledger whose image was to be written when the disk's fuse burnt: plain laws. By the session itself. LedgerJumps walked. By the session itself. A ledger on a disk whose fuse is lit: plain laws. By the session itself.
-/
import Derived.Test.YtellahclbhfdiaaGreatDoorZ37
namespace Go.Proofs.YtellahclbhfdiaaGreatDoor
set_option linter.unusedSimpArgs false
set_option linter.unusedVariables false
set_option maxRecDepth 100000
set_option maxHeartbeats 1000000
open Go.Vc Go.RowKit
theorem imgL_none {D:Dsk} {p:Nm} (h2:tLook D.fs (imgN p) = none):imgL D p = (0,[],0):=by
 have e2:kLoad D (imgN p) = ([],7):=by unfold kLoad dRead; rw [h2]; simp
 unfold imgL; rw [e2]; simp
theorem imgL_some {D:Dsk} {p:Nm} {n l:Nat} {b:List UInt8} (hn:n ≤ 1099511627776) (hb:b.length ≤ 524288) (h2:tLook D.fs (imgN p) = some ⟨recL (numB n ++ rowB b),l⟩):imgL D p = (n,b,0):=by
 have hcl:=entry_len n b (by omega) (by omega)
 have e2:kLoad D (imgN p) = (numB n ++ rowB b,0):=by
  unfold kLoad dRead
  rw [h2]
  simp only
  rw [one_rec _ (by omega)]
  simp
 unfold imgL
 rw [e2]
 simp only
 rw [numRow_ent n b (by omega) (by omega)]
 simp
 omega
/-- The shadow of an image is taken away first. -/
theorem opn_sh {D:Dsk} {p:Nm} (ok:D.Ok) (hl:D.left = none) (hp:p.length ≤ 20):opn D p = opn { D with fs:=tGone D.fs (shadow (imgN p)) } p:=by
 have hs:badN (shadow (imgN p)) = false:=by
  have:(shadow (imgN p)).length = p.length + 5:=by simp [shadow,imgN]
  unfold badN
  rw [decide_eq_false (by omega),decide_eq_false (by omega)]; rfl
 have e1:=rmvs1_free (D:=D) (s:=shadow (imgN p)) hl hs
 have e2:rmvs { D with fs:=tGone D.fs (shadow (imgN p)) } [shadow (imgN p)] = ({ D with fs:=tGone D.fs (shadow (imgN p)) },0):=by
  have:tLook (Dsk.fs { D with fs:=tGone D.fs (shadow (imgN p)) }) (shadow (imgN p)) = none:=by simp only [tLook_gone ok.srt,if_pos]
  simp [rmvs,kW1_none this]
 unfold opn
 rw [e1,e2]
/-- What lies on a disk for the ledger 'a': the image, the log, and nothing beside. -/
structure Sta (D:Dsk) (base:Nat) (data:List UInt8) (qs:List (List UInt8)) (u m:Nat):Prop where
 free:Free D u m
 room:D.room = 65536
 sh:tLook D.fs (shadow (imgN [97])) = none
 img:(base = 0 ∧ data = [] ∧ tLook D.fs (imgN [97]) = none) ∨ tLook D.fs (imgN [97]) = some ⟨recL (numB base ++ rowB data),(recL (numB base ++ rowB data)).length⟩
 log:(qs = [] ∧ tLook D.fs (logN [97]) = none) ∨ ∃ l,tLook D.fs (logN [97]) = some ⟨recsB (entsP (base + 1) qs),l⟩
theorem Sta.im {D:Dsk} {base u m:Nat} {data:List UInt8} {qs:List (List UInt8)} (h:Sta D base data qs u m) (hn:base ≤ 1099511627776) (hb:data.length ≤ 524288):imgL D [97] = (base,data,0):=by
 rcases h.img with ⟨rfl,rfl,h2⟩ | h2
 ·exact imgL_none h2
 ·exact imgL_some hn hb h2
theorem Sta.file {D:Dsk} {base u m:Nat} {data:List UInt8} {qs:List (List UInt8)} (h:Sta D base data qs u m):(fileD D (logN [97])).b = recsB (entsP (base + 1) qs):=by
 unfold fileD
 rcases h.log with ⟨rfl,h2⟩ | ⟨l,h2⟩
 ·rw [h2]; rfl
 ·rw [h2]; rfl
/-- An entry appended. -/
theorem Sta.push {D:Dsk} {base u m:Nat} {data:List UInt8} {qs:List (List UInt8)} (h:Sta D base data qs u m) (b:List UInt8) (hb:b.length ≤ 65536) (hu:u + b.length + 30 ≤ 65536) (hm:m < 4096) (h40:base + qs.length < 1099511627776) :
  ∃ D',lApp D [97] ⟨base,data,qs,false⟩ b = (D',⟨base,data,qs ++ [b],false⟩,base + qs.length + 1,0) ∧ Sta D' base data (qs ++ [b]) (u + b.length + 30) (m + 1) ∧ tLook D'.fs (logN [97]) = some ⟨recsB (entsP (base + 1) (qs ++ [b])),(recsB (entsP (base + 1) (qs ++ [b]))).length⟩:=by
 have hll:(⟨base,data,qs,false⟩:Led).last = base + qs.length:=rfl
 obtain ⟨D',e,f,r,x,o⟩:=lApp_out (p:=[97]) (L:=⟨base,data,qs,false⟩) (b:=b) h.free (by simp) rfl (by rw [hll]; exact h40) hb (by rw [h.room]; exact hu) hm
 rw [hll] at e x
 have hf:(fileD D (logN [97])).b ++ entB (base + qs.length + 1) b = recsB (entsP (base + 1) (qs ++ [b])):=by
  rw [h.file,ents_push,show base + 1 + qs.length = base + qs.length + 1 by omega]
 rw [hf] at x
 exact ⟨D',e,⟨f,r.trans h.room,by rw [o _ logs_ne,h.sh],by rw [o _ logi_ne]; exact h.img,.inr ⟨_,x⟩⟩,x⟩
/-- Every file's bytes last. -/
def Sy (D:Dsk):Prop:=∀ t x,tLook D.fs t = some x → x.l = x.b.length
theorem Sta.pushed {D:Dsk} {base u m:Nat} {data:List UInt8} {qs:List (List UInt8)} (h:Sta D base data qs u m) (sy:Sy D) (b:List UInt8) (hb:b.length ≤ 65536) (hu:u + b.length + 30 ≤ 65536) (hm:m < 4096) (h40:base + qs.length < 1099511627776) :
  ∃ D',lApp D [97] ⟨base,data,qs,false⟩ b = (D',⟨base,data,qs ++ [b],false⟩,base + qs.length + 1,0) ∧ Sta D' base data (qs ++ [b]) (u + b.length + 30) (m + 1) ∧ Sy D':=by
 obtain ⟨D1,e1,s1,x1⟩:=h.push b hb hu hm h40
 have hll:(⟨base,data,qs,false⟩:Led).last = base + qs.length:=rfl
 obtain ⟨D',e,f,r,x,o⟩:=lApp_out (p:=[97]) (L:=⟨base,data,qs,false⟩) (b:=b) h.free (by simp) rfl (by rw [hll]; exact h40) hb (by rw [h.room]; exact hu) hm
 have eD:D1 = D':=by
  rw [e1] at e
  exact (Prod.mk.inj e).1
 subst eD
 refine ⟨D1,e1,s1,fun t y hy => ?_⟩
 by_cases ht:t = logN [97]
 ·rw [ht,x1] at hy
  cases hy
  rfl
 ·rw [o t ht] at hy
  exact sy t y hy
theorem scan_all (es:List (List UInt8)) (he:∀ e ∈ es,e.length ≤ 1048576):scanL ((recsB es).length + 1) (recsB es) = (es,(recsB es).length):=by
 have:=scan_cut es he es.length (recsB es).length ((recsB es).length + 1) (Nat.le_refl _) (by rw [List.take_length]; exact Nat.le_refl _) (.inl rfl) (Nat.le_refl _) (by omega)
 rw [List.take_length,List.take_length] at this
 exact this
/-- What stands is found. -/
theorem Sta.op {D:Dsk} {base u m:Nat} {data:List UInt8} {qs:List (List UInt8)} (h:Sta D base data qs u m) (hn:base ≤ 10000) (hb:data.length ≤ 524288) (hq:qs.length ≤ 10000) (hqb:∀ b ∈ qs,b.length ≤ 65536) :
  ∃ D',opn D [97] = (D',0,⟨base,data,qs,false⟩) ∧ Sta D' base data qs u m:=by
 have e1:rmvs D [shadow (imgN [97])] = (D,0):=by simp [rmvs,kW1_none h.sh]
 have e3:=h.im (by omega) hb
 have fin:∀ D',logL D [97] base = (D',0,qs) → opn D [97] = (D',0,⟨base,data,qs,false⟩):=fun D' e => by
  unfold opn opn2
  rw [e1]
  simp only [ne_eq,not_true_eq_false,if_false]
  unfold opn3
  rw [e3]
  simp only [ne_eq,not_true_eq_false,if_false]
  rw [e]
 rcases h.log with ⟨hq0,h2⟩ | ⟨l,h2⟩
 ·exact ⟨D,fin D (by unfold logL; rw [h2,hq0]),h⟩
 ·obtain ⟨la,htk⟩:=takesP_next (base:=base) qs [] (-1) (base + 1) (by simp) (by omega) (fun b hb => by have:=hqb b hb; omega) (.inl (by omega))
  rw [List.nil_append] at htk
  have hsc:=scan_all (entsP (base + 1) qs) (entsP_mem hqb (by omega) (by omega))
  obtain ⟨D',e4,f4,r4,n4,z4,o4⟩:=logOf_free h.free (logN_bad (p:=[97]) (by simp)) h2 hsc htk
  refine ⟨D',fin D' (by unfold logL; rw [h2]; exact e4),f4,r4.trans h.room,by rw [o4 _ logs_ne,h.sh],by rw [o4 _ logi_ne]; exact h.img,?_⟩
  by_cases hq0:qs = []
  ·exact .inl ⟨hq0,z4 hq0⟩
  ·obtain ⟨l',hl'⟩:=n4 hq0
   simp only [List.take_length] at hl'
   exact .inr ⟨l',hl'⟩
theorem Free.lay {D:Dsk} {u m l:Nat} {s:Nm} {b:List UInt8} (h:Free D u m) (hl:l ≤ b.length) (hu:u + b.length ≤ D.room) (hm:m < 4096) (hs:s.length ≤ 64):Free { D with fs:=tLay D.fs s ⟨b,l⟩ } (u + b.length) (m + 1):=by
 have h1:=h.used
 have h2:=h.many
 have hul:=used_lay h.ok s ⟨b,l⟩
 have hll:=lay_len h.ok.srt s (⟨b,l⟩:Fil)
 simp only at hul
 refine ⟨h.ok.lay _ _ hl (by simp only; omega) (fun _ => by omega) hs,h.left,by omega,?_⟩
 simp only [hll]
 split <;> omega
theorem Free.mono {D:Dsk} {u u' m m':Nat} (h:Free D u m) (hu:u ≤ u') (hm:m ≤ m'):Free D u' m':=⟨h.ok,h.left,Nat.le_trans h.used hu,Nat.le_trans h.many hm⟩
theorem Sta.mono {D:Dsk} {base u u' m m':Nat} {data:List UInt8} {qs:List (List UInt8)} (h:Sta D base data qs u m) (hu:u ≤ u') (hm:m ≤ m'):Sta D base data qs u' m':=⟨h.free.mono hu hm,h.room,h.sh,h.img,h.log⟩
theorem done_room (D:Dsk):D.done.room = D.room:=rfl
theorem dEach1_room {D:Dsk} {s:Nm} (f:Dsk → Nm → Fil → Dsk) (hf:∀ D s x,(f D s x).room = D.room):(dEach f D [s]).1.room = D.room:=by
 have h1:(dStep f D s).1.room = D.room:=by
  unfold dStep
  split
  ·rfl
  ·split
   ·rfl
   ·rw [done_room,hf]
 simp only [dEach]
 split
 ·exact h1
 ·exact h1
theorem dApp_room (D:Dsk) (s:Nm) (b:List UInt8):(dAppend D s b).1.room = D.room:=by
 unfold dAppend
 split
 ·rfl
 ·split <;> rfl
theorem dRen_room (D:Dsk) (a b:Nm):(dRename D a b).1.room = D.room:=by
 unfold dRename
 split
 ·rfl
 ·split <;> rfl
theorem kW1_room (D:Dsk) (s:Nm):(kW1 D s).1.room = D.room:=by
 unfold kW1
 split
 ·exact dEach1_room _ fun _ _ _ => rfl
 ·rfl
theorem kSave_room (D:Dsk) (s:Nm) (b:List UInt8):(kSave D s b).1.room = D.room:=by
 have h4:∀ E sh,(kW4 E sh s).1.room = E.room:=fun E sh => by
  have h:=dEach1_room (D:=E) (s:=sh) fSync fun _ _ _ => rfl
  unfold kW4
  split
  ·exact h
  ·rw [dRen_room,h]
 have h3:∀ E sh c,(kW3 E sh s c).1.room = E.room:=fun E sh c => by
  unfold kW3
  split
  ·exact dApp_room _ _ _
  ·rw [h4,dApp_room]
 unfold kSave
 split
 ·rfl
 ·split
  ·rfl
  ·unfold kWhole
   split
   ·exact kW1_room _ _
   ·rw [h3,kW1_room]
theorem cutF_sy {d:Nat} {x:Fil} (h:x.l = x.b.length):cutF d x = x:=by
 obtain ⟨b,l⟩:=x
 simp only at h
 subst h
 exact cutF_whole d b
/-- A disk behind a crash, its shadow gone: what is left of it. -/
theorem opn_crash {D E:Dsk} {d:Int} (ok:(dCrash D d).Ok) (hE:Srt E.fs) (hr:E.room = D.room) (hl:E.left = none)
  (h:∀ t,tLook E.fs t = if t = shadow (imgN [97]) then none else (tLook D.fs t).map (cutF d.toNat)):opn (dCrash D d) [97] = opn E [97]:=by
 rw [opn_sh ok rfl (by simp)]
 have e:({ dCrash D d with fs:=tGone (dCrash D d).fs (shadow (imgN [97])) }:Dsk) = E:=by
  have:tGone (dCrash D d).fs (shadow (imgN [97])) = E.fs:=tLook_ext (ok.srt.tGone _) hE fun t => by
   rw [tLook_gone ok.srt,h t]
   unfold dCrash
   simp only [tLook_mapv]
  rw [this]
  unfold dCrash
  obtain ⟨r,fs,lf⟩:=E
  simp only at hr hl ⊢
  rw [hr,hl]
 rw [e]
theorem Sta.back {D:Dsk} {base u m:Nat} {data:List UInt8} {qs:List (List UInt8)} (h:Sta D base data qs u m) (ok:(dCrash D 0).Ok) (hl:tLook D.fs (logN [97]) = some ⟨recsB (entsP (base + 1) qs),(recsB (entsP (base + 1) qs)).length⟩) (hn:base ≤ 10000) (hb:data.length ≤ 524288) (hq:qs.length ≤ 10000) (hqb:∀ b ∈ qs,b.length ≤ 65536) :
  ∃ D',opn (dCrash D 0) [97] = (D',0,⟨base,data,qs,false⟩):=by
 have hc:∀ t,tLook (dCrash D 0).fs t = (tLook D.fs t).map (cutF 0):=fun t => by unfold dCrash; simp only [tLook_mapv]; rfl
 have st:Sta (dCrash D 0) base data qs (dCrash D 0).used (dCrash D 0).fs.length:=by
  refine ⟨⟨ok,rfl,Nat.le_refl _,Nat.le_refl _⟩,h.room,by rw [hc,h.sh]; rfl,?_,.inr ⟨_,by rw [hc,hl,Option.map_some,cutF_whole]⟩⟩
  rcases h.img with ⟨h1,h2,h3⟩ | h3
  ·exact .inl ⟨h1,h2,by rw [hc,h3]; rfl⟩
  ·exact .inr (by rw [hc,h3,Option.map_some,cutF_whole])
 obtain ⟨D',e,_⟩:=st.op hn hb hq hqb
 exact ⟨D',e⟩
set_option maxHeartbeats 2000000
theorem Lw.disk {w0 w:World} {l g:Nat} {p:Nm} {D D':Dsk} {L:Led} {k:FuncId} {args:Array Value} {u:Value} (T:Lw w0 w l g p D L)
  (h:∀ F,Dk w g D F → Cal Tryz.prog k args w fun v w' => v = u ∧ ∃ F',Dk w' g D' F' ∧ Gr F F' w w' ∧ Kp F w w'):Cal Tryz.prog k args w fun v w' => v = u ∧ Lw w0 w' l g p D' L :=
 (T.lx.disk (e:=0) (Ow.nil _ _ _) h).mono fun v w' ⟨e,h,_⟩ => ⟨e,h.lw⟩
theorem Lw.fuse {w0 w:World} {l g:Nat} {p:Nm} {D:Dsk} {L:Led} (T:Lw w0 w l g p D L) (n:Int) (hn:n ≤ 9223372036854775807):Cal Tryz.prog 23 #[.pointer (some ⟨g,0,none⟩),i64 n] w fun v w' => v = .tuple #[] ∧ Lw w0 w' l g p (dFuse D n) L :=
 T.disk fun F h => (dfuse_spec n hn g D F w h).mono fun v w' ⟨e,h',k⟩ => ⟨e,F,h',fun i hi => .inl hi,k.mono fun i _ (e:i = g) => by
  obtain ⟨_,_,_,_,_,hM⟩:=h
  exact e ▸ hM.fg⟩
set_option maxHeartbeats 1000000
/-- Entries that stand, and nothing beside. -/
structure Li (D:Dsk) (ps:List (List UInt8)) (u m:Nat):Prop where
 sta:Sta D 0 [] ps u m
 sy:Sy D
 on:∀ t,t ≠ logN [97] → tLook D.fs t = none
def Fz (lf:Option Nat):Prop:=∀ k,lf = some k → k ≤ 9223372036854775807
theorem Fz.dn {lf:Option Nat} (h:Fz lf):Fz (lf.map (· - 1)):=fun k hk => by
 cases lf with
 | none => cases hk
 | some n =>
  have:=h n rfl
  simp only [Option.map_some,Option.some.injEq] at hk
  omega
/-- A disk behind a crash on which the entries stand. -/
theorem Li.crash {D:Dsk} {ps:List (List UInt8)} {u m:Nat} {lf:Option Nat} (h:Li D ps u m) (hq:ps.length ≤ 1000) (hqb:∀ b ∈ ps,b.length ≤ 65536) (d:Int) (ok:(dCrash { D with left:=lf } d).Ok):∃ D4,opn (dCrash { D with left:=lf } d) [97] = (D4,0,⟨0,[],ps,false⟩):=by
 obtain ⟨D4,e4,s4⟩:=h.sta.op (by omega) (by simp) (by omega) hqb
 refine ⟨D4,?_⟩
 rw [opn_crash ok (E:=D) h.sta.free.ok.srt rfl h.sta.free.left ?_]
 ·exact e4
 ·intro t
  by_cases t1:t = shadow (imgN [97])
  ·rw [if_pos t1,t1]
   exact h.sta.sh
  ·rw [if_neg t1]
   show tLook D.fs t = (tLook D.fs t).map _
   cases hx:tLook D.fs t with
   | none => rfl
   | some x => rw [Option.map_some,cutF_sy (h.sy t x hx)]
/-- An entry of which a part may last. -/
theorem Li.half {D E:Dsk} {ps:List (List UInt8)} {b:List UInt8} {u m:Nat} (h:Li D ps u m) (hb:b.length ≤ 65536) (hu:u + b.length + 30 ≤ 65536) (hm:m < 4095) (hq:ps.length ≤ 999) (hqb:∀ b ∈ ps,b.length ≤ 65536)
  (hE:E.fs = tLay D.fs (logN [97]) ⟨logB (ps ++ [b]),(logB ps).length⟩) (hr:E.room = D.room) (d:Int) (ok:(dCrash E d).Ok):∃ D4 qs,opn (dCrash E d) [97] = (D4,0,⟨0,[],qs,false⟩) ∧ (qs = ps ∨ qs = ps ++ [b]):=by
 have hX:logB (ps ++ [b]) = logB ps ++ entB (1 + ps.length) b:=ents_push ps 1 b
 have hel:(entB (1 + ps.length) b).length ≤ b.length + 30:=by
  have:=entry_len (1 + ps.length) b (by omega) (by omega)
  unfold entB
  rw [recL_len]
  omega
 have hfl:(logB (ps ++ [b])).length = (logB ps).length + (entB (1 + ps.length) b).length:=by rw [hX,List.length_append]
 obtain ⟨t,ht⟩:∃ t,t = (logB ps).length + d.toNat % ((logB (ps ++ [b])).length - (logB ps).length + 1):=⟨_,rfl⟩
 have htl:t ≤ (logB (ps ++ [b])).length:=by
  have:=Nat.mod_lt d.toNat (show (logB (ps ++ [b])).length - (logB ps).length + 1 > 0 by omega)
  omega
 have hcut:cutF d.toNat ⟨logB (ps ++ [b]),(logB ps).length⟩ = ⟨(logB (ps ++ [b])).take t,t⟩:=by unfold cutF; simp only [← ht]
 have hfile:(logB ps).length ≤ u:=by
  have h1:=used_lay h.sta.free.ok (logN [97]) ⟨[],0⟩
  have h2:=h.sta.free.used
  have h3:(fileD D (logN [97])).b = logB ps:=h.sta.file
  rw [h3] at h1
  simp only [List.length_nil] at h1
  omega
 have fr:Free { D with fs:=tLay D.fs (logN [97]) ⟨(logB (ps ++ [b])).take t,t⟩ } (u + (u + b.length + 30)) (m + 1):=by
  have hul:=used_lay h.sta.free.ok (logN [97]) ⟨(logB (ps ++ [b])).take t,t⟩
  have hll:=lay_len h.sta.free.ok.srt (logN [97]) (⟨(logB (ps ++ [b])).take t,t⟩:Fil)
  have h2:=h.sta.free.used
  have h4:=h.sta.free.many
  have h5:=h.sta.room
  have h3:(fileD D (logN [97])).b = logB ps:=h.sta.file
  have h6:((tLook D.fs (logN [97])).getD .none).b = logB ps:=h3
  have htk:((logB (ps ++ [b])).take t).length = t:=by rw [List.length_take]; omega
  rw [h3] at hul
  simp only [htk] at hul
  refine ⟨h.sta.free.ok.lay _ _ (by simp only [htk]; omega) (by rw [h6]; simp only [htk]; omega) (fun _ => by omega) (by decide),h.sta.free.left,by omega,?_⟩
  simp only [hll]
  split <;> omega
 obtain ⟨n,hn1,hn2,hn3,hn4⟩:∃ n,n ≤ (ps ++ [b]).length ∧ (logB ((ps ++ [b]).take n)).length ≤ t ∧ (n = (ps ++ [b]).length ∨ t < (logB ((ps ++ [b]).take (n + 1))).length) ∧ ((ps ++ [b]).take n = ps ∨ (ps ++ [b]).take n = ps ++ [b]):=by
  have hl1:(ps ++ [b]).length = ps.length + 1:=by simp
  have tk1:(ps ++ [b]).take ps.length = ps:=List.take_left' rfl
  have tk2:(ps ++ [b]).take (ps.length + 1) = ps ++ [b]:=List.take_of_length_le (by omega)
  by_cases hlt:t < (logB (ps ++ [b])).length
  ·exact ⟨ps.length,by omega,by rw [tk1]; omega,.inr (by rw [tk2]; exact hlt),.inl tk1⟩
  ·exact ⟨ps.length + 1,by omega,by rw [tk2]; omega,.inl (by omega),.inr tk2⟩
 obtain ⟨D4,e4,_⟩:=opn_cut (D:={ D with fs:=tLay D.fs (logN [97]) ⟨(logB (ps ++ [b])).take t,t⟩ }) (ps:=ps ++ [b]) (k:=t) (n:=n) (l:=t) fr (by simp only [tLook_lay,if_pos]) (fun s hs => by simp only [tLook_lay,if_neg hs]; exact h.on s hs) htl hn1 hn2 hn3 (by simp; omega) (fun c hc => by
  rcases List.mem_append.1 hc with hc | hc
  ·exact hqb c hc
  ·rw [List.mem_singleton.1 hc]; exact hb)
 refine ⟨D4,_,?_,hn4⟩
 rw [opn_crash ok (E:={ D with fs:=tLay D.fs (logN [97]) ⟨(logB (ps ++ [b])).take t,t⟩ }) (h.sta.free.ok.srt.tLay _ _) hr.symm h.sta.free.left ?_]
 ·exact e4
 ·intro s
  rw [hE]
  simp only [tLook_lay]
  by_cases s1:s = shadow (imgN [97])
  ·rw [if_pos s1,s1,if_neg logs_ne]
   exact h.sta.sh
  ·rw [if_neg s1]
   by_cases s2:s = logN [97]
   ·rw [if_pos s2,if_pos s2,Option.map_some,hcut]
   ·rw [if_neg s2,if_neg s2,h.on s s2]
    rfl
/-- An entry appended on a lit disk. -/
theorem Li.push {D:Dsk} {ps:List (List UInt8)} {b:List UInt8} {u m:Nat} {lf:Option Nat} (h:Li D ps u m) (hf:Fz lf) (hb:b.length ≤ 65536) (hu:u + b.length + 30 ≤ 65536) (hm:m < 4095) (hq:ps.length ≤ 999) (hqb:∀ b ∈ ps,b.length ≤ 65536) :
  (∃ D' lf',lApp { D with left:=lf } [97] ⟨0,[],ps,false⟩ b = ({ D' with left:=lf' },⟨0,[],ps ++ [b],false⟩,ps.length + 1,0) ∧ Li D' (ps ++ [b]) (u + b.length + 30) (m + 1) ∧ Fz lf') ∨
  ∃ E,lApp { D with left:=lf } [97] ⟨0,[],ps,false⟩ b = (E,⟨0,[],ps,true⟩,0,9) ∧ ∀ d,(dCrash E d).Ok → ∃ D4 qs,opn (dCrash E d) [97] = (D4,0,⟨0,[],qs,false⟩) ∧ (qs = ps ∨ qs = ps ++ [b]):=by
 have hll:(⟨0,[],ps,false⟩:Led).last = ps.length:=by simp [Led.last]
 have hX:logB (ps ++ [b]) = logB ps ++ entB (1 + ps.length) b:=ents_push ps 1 b
 rw [Nat.add_comm 1] at hX
 have hel:(entB (ps.length + 1) b).length ≤ b.length + 30:=by
  have:=entry_len (ps.length + 1) b (by omega) (by omega)
  unfold entB
  rw [recL_len]
  omega
 have hfile:(fileD D (logN [97])).b = logB ps:=h.sta.file
 have hl:(fileD D (logN [97])).l = (logB ps).length:=by
  cases hx:tLook D.fs (logN [97]) with
  | none =>
   have:fileD D (logN [97]) = .none:=by unfold fileD; rw [hx]; rfl
   rw [this] at hfile ⊢
   rw [← hfile]
   rfl
  | some x =>
   have:fileD D (logN [97]) = x:=by unfold fileD; rw [hx]; rfl
   rw [this] at hfile ⊢
   rw [h.sy _ x hx,hfile]
 obtain ⟨Du,eu,su,yu⟩:=h.sta.pushed h.sy b hb hu (by omega) (by omega)
 have efr:=lApp_free (D:=D) (p:=[97]) (L:=⟨0,[],ps,false⟩) (b:=b) h.sta.free.ok h.sta.free.left (by simp) rfl (by rw [hll]; omega) hb (by have:=h.sta.free.used; have:=h.sta.room; omega) (by have:=h.sta.free.many; omega)
 rw [hll,hfile,← hX] at efr
 have hDu:Du = { D with fs:=tLay D.fs (logN [97]) ⟨logB (ps ++ [b]),(logB (ps ++ [b])).length⟩ }:=by
  rw [efr] at eu
  exact (Prod.mk.inj eu).1.symm
 have hbl:badN (logN [97]) = false:=logN_bad (by simp)
 have e0:lApp { D with left:=lf } [97] ⟨0,[],ps,false⟩ b = apL ⟨0,[],ps,false⟩ (apS (dAppend { D with left:=lf } (logN [97]) (entB (ps.length + 1) b)) (logN [97])) b:=by
  unfold lApp
  rw [if_neg (by simp),if_neg (by rw [hll]; omega),hll]
 rw [e0]
 have m1:mayL { D with left:=lf } [logN [97]] = if lf = some 0 then 9 else 0:=mayL_good (by simp [hbl])
 by_cases l0:lf = some 0
 ·have:dAppend { D with left:=lf } (logN [97]) (entB (ps.length + 1) b) = ({ D with left:=lf },9):=by
   unfold dAppend
   rw [m1,if_pos l0,if_pos (show (9:Nat) ≠ 0 by decide)]
  rw [this]
  unfold apS
  rw [if_pos (show (9:Nat) ≠ 0 by decide)]
  unfold apL
  rw [if_pos (show (9:Nat) ≠ 0 by decide)]
  refine .inr ⟨_,rfl,fun d ok => ?_⟩
  obtain ⟨D4,e4⟩:=h.crash (by omega) hqb d ok
  exact ⟨D4,ps,e4,.inl rfl⟩
 ·have hus:=h.sta.free.used
  have hms:=h.sta.free.many
  have hrm:=h.sta.room
  have hA:dAppend { D with left:=lf } (logN [97]) (entB (ps.length + 1) b) = ({ D with fs:=tLay D.fs (logN [97]) ⟨logB (ps ++ [b]),(logB ps).length⟩,left:=lf.map (· - 1) },0):=by
   unfold dAppend
   rw [m1,if_neg l0,if_neg (fun h => h rfl),if_neg (fun h => h.elim (fun h => by have:D.room < D.used + (entB (ps.length + 1) b).length:=h; omega) fun h => by have:4096 ≤ D.fs.length:=h.2; omega)]
   have e1:((tLook D.fs (logN [97])).getD .none).b = logB ps:=hfile
   have e2:((tLook D.fs (logN [97])).getD .none).l = (logB ps).length:=hl
   simp only [e1,e2,hX]
   rfl
  rw [hA]
  unfold apS
  rw [if_neg (fun h => h rfl)]
  simp only
  obtain ⟨D1,hD1⟩:∃ D1:Dsk,D1 = { D with fs:=tLay D.fs (logN [97]) ⟨logB (ps ++ [b]),(logB ps).length⟩,left:=lf.map (· - 1) }:=⟨_,rfl⟩
  rw [← hD1]
  have hx1:tLook D1.fs (logN [97]) = some ⟨logB (ps ++ [b]),(logB ps).length⟩:=by rw [hD1]; simp only [tLook_lay,if_pos]
  have m2:mayL D1 [logN [97]] = if D1.left = some 0 then 9 else 0:=mayL_good (by simp [hbl])
  by_cases l1:D1.left = some 0
  ·have hS:dEach fSync D1 [logN [97]] = (D1,9):=by
    simp only [dEach,dStep,m2,if_pos l1]
    simp
   rw [hS]
   unfold apL
   rw [if_pos (show (9:Nat) ≠ 0 by decide)]
   refine .inr ⟨_,rfl,fun d ok => ?_⟩
   exact h.half hb hu hm hq hqb (by rw [hD1]) (by rw [hD1]) d ok
  ·have hS:dEach fSync D1 [logN [97]] = ((fSync D1 (logN [97]) ⟨logB (ps ++ [b]),(logB ps).length⟩).done,0):=by
    simp only [dEach,dStep,m2,if_neg l1,hx1]
    simp
   rw [hS]
   unfold apL
   rw [if_neg (fun h => h rfl)]
   refine .inl ⟨Du,(lf.map (· - 1)).map (· - 1),?_,⟨su,yu,fun t ht => ?_⟩,hf.dn.dn⟩
   ·rw [hll]
    have e3:(fSync D1 (logN [97]) ⟨logB (ps ++ [b]),(logB ps).length⟩).done = { Du with left:=(lf.map (· - 1)).map (· - 1) }:=by
     rw [hDu,hD1]
     unfold fSync Dsk.done
     simp only [lay_lay h.sta.free.ok.srt]
    rw [e3]
   ·rw [hDu]
    simp only [tLook_lay,if_neg ht]
    exact h.on t ht
end Go.Proofs.YtellahclbhfdiaaGreatDoor
