/-
  The reference's disk: Read, List, Sync, remove walked. By the session itself. The reference's disk: remove, Remove walked. By the session itself. The reference's disk: Truncate walked. By the session itself. The reference's disk: Append walked. By the session itself. The reference's disk: Rename walked. By the session itself. The reference's disk: Crash walked. By the session itself. The reference's disk: Copy walked. By the session itself. disk.Copy walked. By the session itself. DiskPlays: the disk and that of the reference side by side. By the session itself.
-/
import Derived.Test.YtellahclbhfdiaaGreatDoorZ32
import Derived.Test.YtellahclbhfdiaaGreatDoorZ05
namespace Go.Proofs.YtellahclbhfdiaaGreatDoor
set_option linter.unusedSimpArgs false
set_option linter.unusedVariables false
set_option maxRecDepth 100000
set_option maxHeartbeats 1000000
open Go.Vc Go.RowKit
theorem RefM.srt {w:World} {x room c:Nat} {left:Option Nat} {L:RL} {A:Option Addr} {Q F:Nat → Prop} (h:RefM w x room left L A c Q F) {D:Dsk} (e:mapv Prod.fst L = D.fs) (ok:D.Ok):Srt L:=srt_mapv (by rw [e]; exact ok.srt)
/-- How much of a file lasts, set anew. -/
theorem RefM.set2 {w:World} {x room c g:Nat} {left:Option Nat} {L:RL} {Q F:Nat → Prop} (h:RefM w x room left L (some ⟨g,0,none⟩) c Q F) (i:Nat) (hlt:i < L.length) (n:Nat) :
  RefM (w.setCell ⟨g,i * 3 + 2,none⟩ (i64 n)) x room left (L.set i (L[i].1,(⟨L[i].2.1.b,n⟩,L[i].2.2))) (some ⟨g,0,none⟩) c Q F ∧ Kp F w (w.setCell ⟨g,i * 3 + 2,none⟩ (i64 n)):=by
 have hs:Kp (At g) w (w.setCell ⟨g,i * 3 + 2,none⟩ (i64 n)):=(Kp.refl _ _).setCell_at _ _
 have hFg:F g:=h.inn g (.inr (.inl rfl))
 have hxg:x ≠ g:=fun e => h.offx _ rfl e.symm
 have hlen:(L.set i (L[i].1,(⟨L[i].2.1.b,n⟩,L[i].2.2))).length = L.length:=by simp
 refine ⟨⟨?_,?_,fun q hq => ?_,h.inn,h.offx,h.offq,fun k hk => Nat.lt_of_lt_of_le (h.lt k hk) hs.size⟩,hs.mono fun k _ e => by rw [show k = g from e]; exact hFg⟩
 ·rw [hlen]; exact h.blk.kp hs fun e => hxg e
 ·rw [hlen,← fc_set2 L i hlt n]; exact ow_setN h.own _ _
 ·have hb:Bv w q.2.2 q.2.1.b Q:=by
   rcases List.mem_or_eq_of_mem_set hq with hq | rfl
   ·exact h.bytes q hq
   ·exact h.bytes L[i] (List.getElem_mem hlt)
  exact hb.kp hs fun k hk e => (h.offq k hk).2 (by rw [show k = g from e]; rfl)
theorem dRead_look {L:RL} {D:Dsk} (e:mapv Prod.fst L = D.fs) (s:Nm):tLook D.fs s = (tLook L s).map Prod.fst:=by rw [← e,tLook_mapv]
theorem rread_spec (s:Nm) (x:Nat) (D:Dsk) (F:Nat → Prop) (w:World) (h:RefD w x D F) (ok:D.Ok) :
  Cal Tryz.prog 133 #[.pointer (some ⟨x,0,none⟩),str s] w fun v w' => Nw w w' ∧ ∃ u,v = .tuple #[u,i64 (dRead D s).2] ∧ Bs w' u (dRead D s).1 w.heap.size:=by
 obtain ⟨L,A,c,Q,he,h⟩:=h
 have hll:=h.lenL he ok
 have hsr:=h.srt he ok
 have hlk:=dRead_look he s
 refine enter Tryz.mixed Tryz.func133 rfl (by kernel_rfl) ?_
 simp -dsimp [go_sem]
 refine call (rspot_spec s x D.room c D.left L A Q F w h hll hsr) ?_
 rintro v w1 ⟨rfl,hk1⟩
 have h1:=h.nw hk1
 have b1:=h1.blk.cell 1
 cases ht:tLook L s with
 | none =>
  have e:dRead D s = ([],7):=by unfold dRead; rw [hlk,ht]; rfl
  rw [e]
  simp -dsimp [go_sem]
  exact ⟨hk1,Bs.nil _ _⟩
 | some q =>
  obtain ⟨f,vv⟩:=q
  have e:dRead D s = (f.b,0):=by unfold dRead; rw [hlk,ht]; rfl
  rw [e]
  have hat:=sp_at hsr ht
  have hlt:=(List.getElem?_eq_some_iff.1 hat).1
  have hLi:=(List.getElem?_eq_some_iff.1 hat).2
  have hmem:(s,(f,vv)) ∈ L:=List.mem_of_getElem? hat
  obtain ⟨B,d,hv,hrB,hd,hq⟩:=h1.bytes _ hmem
  simp only at hv hrB hd
  obtain ⟨_,c1,_⟩:=fc_at L (spN L s) hlt
  rw [hLi,hv] at c1
  obtain ⟨b,o,rfl,hc1⟩:=h1.own.rd _ _ c1
  rw [← Nat.add_assoc] at hc1
  have hub:f.b.length ≤ 1073741824:=by
   have h2:=sumv_ge (fun f:Fil => f.b.length) (show tLook D.fs s = some f by rw [hlk,ht]; rfl)
   have h3:=ok.used
   have h4:=ok.room
   have h5:D.used = sumv (fun f:Fil => f.b.length) D.fs:=rfl
   omega
  generalize spN L s = i at *
  have ka:Nw w1 (w1.alloc (.cells #[] 5)):=(Kp.refl _ _).alloc _
  have b1a:=(h1.nw ka).blk.cell 1
  have hc1a:=ka.cell_some hc1 fun h => h
  simp -dsimp [go_sem,b1,hlt,hc1,b1a,hc1a]
  refine bs_fresh (m:=f.b) rfl rfl hrB (by omega) ?_
  intro v2 w2 hB2 hk2
  simp -dsimp [go_sem]
  exact ⟨hk1.nw hk2,hB2.mono hk1.size⟩
theorem rsync_spec (s:Nm) (x:Nat) (D:Dsk) (F:Nat → Prop) (w:World) (h:RefD w x D F) (ok:D.Ok) (hsl:s.length ≤ 9223372036854775807) :
  Cal Tryz.prog 127 #[.pointer (some ⟨x,0,none⟩),str s] w fun v w' => v = i64 (dStep fSync D s).2 ∧ ∃ F',RefD w' x (dStep fSync D s).1 F' ∧ Gr F F' w w' ∧ Kp F w w':=by
 have hm:=fun w1 (k:Nw w w1) (A:Option Addr) (c:Nat) (hr:Rd w1 A ([s].map fun s => str s)) => rmay_spec [s] A c x D F w1 (h.nw k) hr (by simp) (by simpa using hsl)
 obtain ⟨L,A,c,Q,he,h0⟩:=id h
 have hll:=h0.lenL he ok
 have hsr:=h0.srt he ok
 have hlk:=dRead_look he s
 refine enter Tryz.mixed Tryz.func127 rfl (by kernel_rfl) ?_
 have ka:Nw w (w.alloc (.cells #[str s] 9)):=(Kp.refl _ _).alloc _
 simp -dsimp [go_sem]
 refine call (hm _ ka (some ⟨w.heap.size,0,none⟩) 1 (Rd.fresh rfl rfl)) ?_
 rintro v w1 ⟨rfl,rfl⟩
 have e0:dStep fSync D s = if mayL D [s] ≠ 0 then (D,mayL D [s]) else match tLook D.fs s with
  | none => (D,7)
  | some x => ((fSync D s x).done,0):=rfl
 by_cases hz:mayL D [s] = 0
 ·rw [hz]
  rw [if_neg (by simp [hz])] at e0
  simp -dsimp [go_sem]
  refine call (rspot_spec s x D.room c D.left L A Q F _ (h0.nw ka) hll hsr) ?_
  rintro v w2 ⟨rfl,hk2⟩
  have n2:=ka.nw hk2
  have h2:=h0.nw n2
  cases ht:tLook L s with
  | none =>
   rw [hlk,ht] at e0
   rw [e0]
   simp -dsimp [go_sem]
   exact ⟨F,h.nw n2,fun k hk => .inl hk,Nw.kp n2 F⟩
  | some q =>
   obtain ⟨f,vv⟩:=q
   rw [hlk,ht] at e0
   rw [e0]
   have hat:=sp_at hsr ht
   have hlt:=(List.getElem?_eq_some_iff.1 hat).1
   have hLi:=(List.getElem?_eq_some_iff.1 hat).2
   have hmem:(s,(f,vv)) ∈ L:=List.mem_of_getElem? hat
   obtain ⟨B,d,hv,hrB,hd,hq⟩:=h2.bytes _ hmem
   simp only at hv hrB hd
   obtain ⟨_,c1,c2⟩:=fc_at L (spN L s) hlt
   have hold:=sp_old hsr ht ((⟨f.b,f.b.length⟩:Fil),vv)
   have hset:=fun (g:Nat) (h3:RefM w2 x D.room D.left L (some ⟨g,0,none⟩) c Q F) => h3.set2 (spN L s) hlt f.b.length
   rw [hLi] at c1 c2 hset
   simp only at c1 c2 hset
   rw [← hold] at hset
   have hfs:mapv Prod.fst (tLay L s ((⟨f.b,f.b.length⟩:Fil),vv)) = (fSync D s f).fs:=by rw [mapv_lay,he]; rfl
   subst hv
   obtain ⟨g,rfl⟩:=h2.own.some (by omega)
   obtain ⟨b,o,e1,hc1⟩:=h2.own.rd _ _ c1
   cases e1
   obtain ⟨b,o,e1,hc2⟩:=h2.own.rd _ _ c2
   cases e1
   rw [Nat.zero_add] at hc1 hc2
   have hf2:=h2.own.frozen (spN L s * 3 + 2)
   obtain ⟨hM3,hK3⟩:=hset g h2
   have b1:w2.cell? ⟨x,1,none⟩ = some (.slice (some ⟨g,0,none⟩) L.length c):=h2.blk.cell 1
   have hxg:x ≠ g:=fun e => h2.offx _ rfl e.symm
   generalize spN L s = i at *
   have kd:Nw w2 w2.drew:=(Kp.refl _ _).drew
   have b1d:=kd.cell_some b1 fun h => h
   have hc1d:=kd.cell_some hc1 fun h => h
   have hc2d:=kd.cell_some hc2 fun h => h
   have hf2d:w2.drew.frozen? ⟨g,i * 3 + 2,none⟩ = false:=hf2
   simp -dsimp [go_sem]
   refine draw (.take 0 (.take 1 (.take 2 (.take 3 (.take 4 (.take 5 (.take 6 (.take 7 (.take 8 (.take 9 (.take 10 (.take 11 (.take 12 (.take 13 (.take 14 (.take 15 (.alt 16 .done .stop))))))))))))))))) (by kernel_rfl) (fun wz => Kp (At g) w2 wz ∧ wz.cell? ⟨g,i * 3 + 1,none⟩ = some (.slice B f.b.length d)) ⟨Nw.kp kd _,hc1⟩ ?_
   simp -dsimp [go_sem,b1d,hlt,hc1d,hc2d,hf2d]
   refine ⟨fun wz hz hz1 => by simp [hz.cell_some b1 (fun (e:x = g) => hxg e)],fun wz hz hz1 => by simp [hz1],⟨((Kp.refl _ _).setCell_at _ _).drew,hc1⟩,?_⟩
   have hM4:=hM3.nw ((Kp.refl (fun _ => False) _).drew)
   have hR3:RefD _ x (fSync D s f) F:=⟨_,_,_,_,hfs,hM4⟩
   refine call (rdid_spec x _ F _ hR3 (fun n hn => by have:=ok.left n hn; omega)) ?_
   rintro v w4 ⟨rfl,hR4,hk4⟩
   simp -dsimp [go_sem]
   exact ⟨F,hR4,fun k hk => .inl hk,((Nw.kp n2 F).trans hK3.drew fun _ _ h => h).trans hk4 fun k _ e => by rw [show k = x from e]; exact h2.inn _ (.inl rfl)⟩
 ·have hz':((mayL D [s]:Int) != 0) = true:=by simp; omega
  rw [if_pos hz] at e0
  rw [e0]
  simp -dsimp [go_sem,hz']
  exact ⟨F,h.nw ka,fun k hk => .inl hk,Nw.kp ka F⟩
/-- Another row of files, in a block that is new. -/
theorem refM_setL {w2 w4:World} {x room c n c':Nat} {left:Option Nat} {L L':RL} {A A':Option Addr} {Q Q' F:Nat → Prop} (h:RefM w2 x room left L A c Q F) (hK:Nw w2 w4) (hn:n = L'.length) (ho:Ow w4 140 3 A' n c' (fc L')) (hA:∀ a,A' = some a → w2.heap.size ≤ a.block)
  (hb:∀ q ∈ L',Bv w4 q.2.2 q.2.1.b Q') (hQ:∀ k,Q' k → Q k ∨ w2.heap.size ≤ k ∧ k < w4.heap.size) (hQA:∀ k,Q' k → ¬ blk A' k) :
  ∃ F',RefM (w4.setCell ⟨x,1,none⟩ (.slice A' n c')) x room left L' A' c' Q' F' ∧ Gr F F' w2 (w4.setCell ⟨x,1,none⟩ (.slice A' n c')) ∧ Kp F w2 (w4.setCell ⟨x,1,none⟩ (.slice A' n c')):=by
 subst hn
 have hFx:=h.inn x (.inl rfl)
 have hxl:=h.lt x hFx
 have hs:Kp (At x) w4 (w4.setCell ⟨x,1,none⟩ (.slice A' L'.length c')):=(Kp.refl _ _).setCell_at _ _
 have hAn:∀ k,blk A' k → w2.heap.size ≤ k ∧ k < w4.heap.size:=fun k hk => by
  obtain ⟨a,ha,rfl⟩:=blk_of hk
  exact ⟨hA a ha,ho.lt a ha⟩
 have hoff:Off A' (At x):=fun a ha e => by
  have:=hA a ha
  have e:a.block = x:=e
  omega
 have hQx:∀ k,Q' k → k ≠ x:=fun k hk e => by
  rcases hQ k hk with h1 | ⟨h1,_⟩
  ·exact (h.offq k h1).1 e
  ·omega
 refine ⟨fun k => F k ∨ blk A' k ∨ Q' k,⟨by simpa using (h.blk.kp hK fun h => h).set 1 _,ho.kp hs hoff,fun q hq => (hb q hq).kp hs fun k hk e => hQx k hk e,fun k hk => ?_,hoff,fun k hk => ⟨hQx k hk,hQA k hk⟩,fun k hk => Nat.lt_of_lt_of_le ?_ hs.size⟩,fun k hk => ?_,(Nw.kp hK F).trans hs fun k _ e => by rw [show k = x from e]; exact hFx⟩
 ·rcases hk with e | e | e
  ·rw [e]; exact .inl hFx
  ·exact .inr (.inl e)
  ·exact .inr (.inr e)
 ·rcases hk with e | e | e
  ·exact Nat.lt_of_lt_of_le (h.lt k e) hK.size
  ·exact (hAn k e).2
  ·rcases hQ k e with e | e
   ·exact Nat.lt_of_lt_of_le (h.lt k (h.inn k (.inr (.inr e)))) hK.size
   ·exact e.2
 ·rcases hk with e | e | e
  ·exact .inl e
  ·exact .inr ⟨(hAn k e).1,Nat.lt_of_lt_of_le (hAn k e).2 hs.size⟩
  ·rcases hQ k e with e | e
   ·exact .inl (h.inn k (.inr (.inr e)))
   ·exact .inr ⟨e.1,Nat.lt_of_lt_of_le e.2 hs.size⟩
theorem rd_cut3 {w:World} {A:Option Addr} {xs:List Value} {c m:Nat} (h:Rd w A xs) (hc:xs.length ≤ c * 3):Rd w (if c = m then A else A.map fun a => a.add (m * 3)) (xs.drop (m * 3)):=by
 split
 ·rename_i e
  rw [List.drop_eq_nil_of_le (by omega)]
  exact Rd.nil _ _
 ·exact h.drop' (m * 3)
theorem fc_one (L:RL) (hb:∀ q ∈ L,∃ B n d,q.2.2 = .slice B n d):∀ u ∈ fc L,u.oneCell' = true:=by
 intro u hu
 obtain ⟨p,hp,h⟩:=List.mem_flatMap.1 hu
 obtain ⟨B,n,d,e⟩:=hb p hp
 simp at h
 rcases h with rfl | rfl | rfl
 ·rfl
 ·rw [e]; rfl
 ·rfl
theorem RefM.slices {w:World} {x room c:Nat} {left:Option Nat} {L:RL} {A:Option Addr} {Q F:Nat → Prop} (h:RefM w x room left L A c Q F):∀ q ∈ L,∃ B n d,q.2.2 = .slice B n d:=fun q hq => by
 obtain ⟨B,d,e,_⟩:=h.bytes q hq
 exact ⟨B,_,d,e⟩
theorem rgoneM_spec (s:Nm) (x room c:Nat) (left:Option Nat) (L:RL) (A:Option Addr) (Q F:Nat → Prop) (w:World) (h:RefM w x room left L A c Q F) (hll:L.length ≤ 4096) (hsr:Srt L) :
  Cal Tryz.prog 187 #[.pointer (some ⟨x,0,none⟩),str s] w fun v w' => v = .tuple #[] ∧ ∃ A' c' F',RefM w' x room left (tGone L s) A' c' Q F' ∧ Gr F F' w w' ∧ Kp (At x) w w':=by
 have hgo:=trivial
 refine enter Tryz.mixed Tryz.func187 rfl (by kernel_rfl) ?_
 simp -dsimp [go_sem]
 refine call (rspot_spec s x room c left L A Q F w h hll hsr) ?_
 rintro v w1 ⟨rfl,hk1⟩
 have h1:=h.nw hk1
 cases ht:tLook L s with
 | none =>
  rw [gone_none ht]
  simp -dsimp [go_sem]
  exact ⟨A,c,F,h1,fun k hk => .inl hk,Nw.kp hk1 _⟩
 | some q =>
  have hat:=sp_at hsr ht
  have hlt:=(List.getElem?_eq_some_iff.1 hat).1
  rw [sp_gone hsr ht]
  generalize spN L s = i at *
  have b1:w1.cell? ⟨x,1,none⟩ = some (.slice A L.length c):=h1.blk.cell 1
  have kd:Nw w1 w1.drew:=(Kp.refl _ _).drew
  have b1d:=kd.cell_some b1 fun h => h
  have hlc:=h1.own.2.1
  have hic:i ≤ c:=by omega
  have hi1:IntKind.i64.wrap ((i:Int) + 1) = ((i + 1:Nat):Int):=w64 (by omega) (by omega)
  have hi1c:i + 1 ≤ L.length:=by omega
  have hil:i ≤ L.length:=by omega
  have hlen1:(L.take i).length = i:=by simp [Nat.min_eq_left hil]
  have hlen2:(L.drop (i + 1)).length = L.length - (i + 1):=by simp
  obtain ⟨i1,hi1'⟩:∃ i1,i1 = i + 1:=⟨_,rfl⟩
  rw [← hi1'] at hi1 hi1c hlen2 ⊢
  have hone1:∀ u ∈ fc (L.take i),u.oneCell' = true:=fc_one _ fun q hq => h1.slices q (List.mem_of_mem_take hq)
  have hone2:∀ u ∈ fc (L.drop i1),u.oneCell' = true:=fc_one _ fun q hq => h1.slices q (List.mem_of_mem_drop hq)
  simp -dsimp [go_sem]
  refine drawD (.take 0 (.take 2 (.take 3 (.take 4 (.take 5 (.take 6 (.take 7 (.take 9 (.take 10 (.take 11 (.take 12 (.take 13 (.take 14 (.take 15 (.alt 1 (.alt 8 (.alt 16 (.alt 17 (.alt 18 (.alt 19 .done .stop) .stop) .stop) .stop) .stop) .stop))))))))))))))) 19 (by kernel_rfl) (fun wz => Nw w1 wz) kd ?_
  simp -dsimp [go_sem,b1d,hic,hil,hi1,hi1c]
  have ka:Nw w1 (w1.alloc (.cells #[] 140)).drew:=((Kp.refl _ _).alloc _).drew
  refine ⟨fun wz hz => by simp [hz.cell_some b1 fun h => h],ka,?_⟩
  refine gs_app SFile (B:=w1.heap.size) ((Gs.made w1 140 3 0 #[] rfl rfl rfl (by simp [maxLen]) (Nat.le_refl _)).nw ((Kp.refl _ _).drew)) (ys:=fc (L.take i)) (m:=i) (by rw [← fc_take _ _ hil]; exact (h1.own.rd.nw ka).take _) (by rw [fc_len,hlen1]) hone1 (by omega) (by omega) ka.size ?_
  intro v2 w2 hG2 hk2
  have n2:Nw w1 w2:=Nw.fr ka hk2 (Nat.le_refl _)
  rw [List.nil_append] at hG2
  obtain ⟨m2,hm2⟩:∃ m2,m2 = 0 + i:=⟨_,rfl⟩
  rw [← hm2] at hG2
  obtain ⟨A2,c2,rfl,ho2,hA2⟩:=id hG2
  refine ⟨.inr n2,?_⟩
  simp -dsimp [go_sem]
  have hrX:=rd_cut3 (h1.own.rd.nw n2) (c:=c) (m:=i1) (by rw [fc_len]; omega)
  rw [fc_drop _ _ hi1c] at hrX
  refine gs_app SFile hG2 (ys:=fc (L.drop i1)) hrX (m:=L.length - i1) (by rw [fc_len,hlen2]) hone2 (by omega) (by omega) n2.size ?_
  intro v3 w3 hG3 hk3
  have n3:Nw w1 w3:=Nw.fr n2 hk3 (Nat.le_refl _)
  rw [← fc_app] at hG3
  obtain ⟨m3,hm3⟩:∃ m3,m3 = m2 + (L.length - i1):=⟨_,rfl⟩
  rw [← hm3] at hG3
  obtain ⟨A3,c3,rfl,ho3,hA3⟩:=id hG3
  refine ⟨.inr n3,?_⟩
  have b13:=(h1.nw n3).blk.cell 1
  have b13f:=(h1.nw n3).blk.frozen 1
  simp -dsimp [go_sem,b13,b13f]
  have hfl:m3 = (L.take i ++ L.drop i1).length:=by rw [List.length_append,hlen1,hlen2]; omega
  obtain ⟨F',hR',hG',hK'⟩:=refM_setL h1 n3 hfl ho3 hA3 (Q':=Q) (fun q hq => by
   have hq':q ∈ L:=by
    rcases List.mem_append.1 hq with hq | hq
    ·exact List.mem_of_mem_take hq
    ·exact List.mem_of_mem_drop hq
   exact (h1.bytes q hq').kp n3 fun _ _ h => h) (fun k hk => .inl hk) (fun k hk e => by
   obtain ⟨a,ha,rfl⟩:=blk_of e
   have h5:=hA3 a ha
   have h6:=h1.lt _ (h1.inn _ (.inr (.inr hk)))
   omega)
  exact ⟨n3,_,_,F',hR',Gr.wide hG' hk1.size (Nat.le_refl _),(Nw.kp hk1 _).trans ((Nw.kp n3 (At x)).trans ((Kp.refl _ _).setCell_at _ _) fun _ _ h => h) fun _ _ h => h⟩
theorem rgone_spec (s:Nm) (x:Nat) (D:Dsk) (F:Nat → Prop) (w:World) (h:RefD w x D F) (ok:D.Ok) :
  Cal Tryz.prog 187 #[.pointer (some ⟨x,0,none⟩),str s] w fun v w' => v = .tuple #[] ∧ ∃ F',RefD w' x { D with fs:=tGone D.fs s } F' ∧ Gr F F' w w' ∧ Kp F w w':=by
 obtain ⟨L,A,c,Q,he,h⟩:=h
 refine (rgoneM_spec s x D.room c D.left L A Q F w h (h.lenL he ok) (h.srt he ok)).mono ?_
 rintro v w' ⟨rfl,A',c',F',hM,hG,hK⟩
 exact ⟨rfl,F',⟨_,_,_,_,by rw [mapv_gone,he],hM⟩,hG,hK.mono fun k _ (e:k = x) => e ▸ h.inn x (.inl rfl)⟩
theorem rremove_spec (s:Nm) (x:Nat) (D:Dsk) (F:Nat → Prop) (w:World) (h:RefD w x D F) (ok:D.Ok) (hsl:s.length ≤ 9223372036854775807) :
  Cal Tryz.prog 131 #[.pointer (some ⟨x,0,none⟩),str s] w fun v w' => v = i64 (dStep fRemove D s).2 ∧ ∃ F',RefD w' x (dStep fRemove D s).1 F' ∧ Gr F F' w w' ∧ Kp F w w':=by
 have hm:=fun w1 (k:Nw w w1) (A:Option Addr) (c:Nat) (hr:Rd w1 A ([s].map fun s => str s)) => rmay_spec [s] A c x D F w1 (h.nw k) hr (by simp) (by simpa using hsl)
 obtain ⟨L,A,c,Q,he,h0⟩:=id h
 have hll:=h0.lenL he ok
 have hsr:=h0.srt he ok
 have hlk:=dRead_look he s
 refine enter Tryz.mixed Tryz.func131 rfl (by kernel_rfl) ?_
 have ka:Nw w (w.alloc (.cells #[str s] 9)):=(Kp.refl _ _).alloc _
 simp -dsimp [go_sem]
 refine call (hm _ ka (some ⟨w.heap.size,0,none⟩) 1 (Rd.fresh rfl rfl)) ?_
 rintro v w1 ⟨rfl,rfl⟩
 have e0:dStep fRemove D s = if mayL D [s] ≠ 0 then (D,mayL D [s]) else match tLook D.fs s with
  | none => (D,7)
  | some x => ((fRemove D s x).done,0):=rfl
 by_cases hz:mayL D [s] = 0
 ·rw [hz]
  rw [if_neg (by simp [hz])] at e0
  simp -dsimp [go_sem]
  refine call (rspot_spec s x D.room c D.left L A Q F _ (h0.nw ka) hll hsr) ?_
  rintro v w2 ⟨rfl,hk2⟩
  have n2:=ka.nw hk2
  cases ht:tLook L s with
  | none =>
   rw [hlk,ht] at e0
   rw [e0]
   simp -dsimp [go_sem]
   exact ⟨F,h.nw n2,fun k hk => .inl hk,Nw.kp n2 F⟩
  | some q =>
   rw [hlk,ht] at e0
   rw [e0]
   simp -dsimp [go_sem]
   refine call (rgone_spec s x D F w2 (h.nw n2) ok) ?_
   rintro v w3 ⟨rfl,F3,hR3,hG3,hK3⟩
   simp -dsimp [go_sem]
   refine call (rdid_spec x _ F3 _ hR3 (fun n hn => by have:=ok.left n hn; omega)) ?_
   rintro v w4 ⟨rfl,hR4,hk4⟩
   have hx3:F3 x:=by
    obtain ⟨_,_,_,_,_,h5⟩:=hR3
    exact h5.inn x (.inl rfl)
   simp -dsimp [go_sem]
   exact ⟨F3,hR4,Gr.wide hG3 n2.size hk4.size,Kp.gr ((Nw.kp n2 F).trans hK3 fun _ _ h => h) (Gr.wide hG3 n2.size (Nat.le_refl _)) (hk4.mono fun k _ e => by rw [show k = x from e]; exact hx3)⟩
 ·have hz':((mayL D [s]:Int) != 0) = true:=by simp; omega
  rw [if_pos hz] at e0
  rw [e0]
  simp -dsimp [go_sem,hz']
  exact ⟨F,h.nw ka,fun k hk => .inl hk,Nw.kp ka F⟩
theorem fc_set_same:∀ (L:RL) (i:Nat) (a:Nm) (f f':Fil) (v:Value),f.l = f'.l → fc (L.set i (a,(f,v))) = fc (L.set i (a,(f',v)))
 | [],_,_,_,_,_,_ => rfl
 | p :: r,0,a,f,f',v,e => by simp [fc,e]
 | p :: r,i + 1,a,f,f',v,e => by
  have:=fc_set_same r i a f f' v e
  exact congrArg (fun t => str p.1 :: p.2.2 :: i64 p.2.1.l :: t) this
/-- A file's bytes, set anew. -/
theorem refM_set1 {w2 w3:World} {x room c g:Nat} {left:Option Nat} {L:RL} {Q F:Nat → Prop} (h:RefM w2 x room left L (some ⟨g,0,none⟩) c Q F) (hK:Nw w2 w3) (i:Nat) (hlt:i < L.length) {v:Value} {b:List UInt8} (hv:Bs w3 v b w2.heap.size) :
  ∃ Q' F',RefM (w3.setCell ⟨g,i * 3 + 1,none⟩ v) x room left (L.set i (L[i].1,(⟨b,L[i].2.1.l⟩,v))) (some ⟨g,0,none⟩) c Q' F' ∧ Gr F F' w2 (w3.setCell ⟨g,i * 3 + 1,none⟩ v) ∧ Kp F w2 (w3.setCell ⟨g,i * 3 + 1,none⟩ v):=by
 obtain ⟨B,d,rfl,hoB,hB⟩:=hv
 have hs:Kp (At g) w3 (w3.setCell ⟨g,i * 3 + 1,none⟩ (.slice B b.length d)):=(Kp.refl _ _).setCell_at _ _
 have hFg:F g:=h.inn g (.inr (.inl rfl))
 have hgl:=h.lt g hFg
 have hxl:=h.lt x (h.inn x (.inl rfl))
 have hxg:x ≠ g:=fun e => h.offx _ rfl e.symm
 have hlen:(L.set i (L[i].1,(⟨b,L[i].2.1.l⟩,Value.slice B b.length d))).length = L.length:=by simp
 have h3:=h.nw hK
 have hBn:∀ k,blk B k → w2.heap.size ≤ k ∧ k < w3.heap.size:=fun k hk => by
  obtain ⟨a,ha,rfl⟩:=blk_of hk
  exact ⟨hB a ha,hoB.lt a ha⟩
 refine ⟨fun k => Q k ∨ blk B k,fun k => F k ∨ blk B k,⟨?_,?_,fun q hq => ?_,fun k hk => ?_,h.offx,fun k hk => ?_,fun k hk => Nat.lt_of_lt_of_le ?_ hs.size⟩,fun k hk => ?_,(Nw.kp hK F).trans hs fun k _ e => by rw [show k = g from e]; exact hFg⟩
 ·rw [hlen]; exact h3.blk.kp hs fun e => hxg e
 ·rw [hlen,fc_set_same L i L[i].1 ⟨b,L[i].2.1.l⟩ L[i].2.1 _ rfl,← fc_set1 L i hlt]; exact ow_setN h3.own _ _
 ·have hb:Bv w3 q.2.2 q.2.1.b (fun k => Q k ∨ blk B k):=by
   rcases List.mem_or_eq_of_mem_set hq with hq | rfl
   ·exact (h3.bytes q hq).mono fun k hk => .inl hk
   ·exact ⟨B,d,rfl,hoB.rd,hoB.2.1,fun k hk => .inr hk⟩
  refine hb.kp hs fun k hk e => ?_
  have e:k = g:=e
  rcases hk with hk | hk
  ·exact (h.offq k hk).2 (by rw [e]; rfl)
  ·have:=(hBn k hk).1; omega
 ·rcases hk with e | e | e | e
  ·exact .inl (h.inn k (.inl e))
  ·exact .inl (h.inn k (.inr (.inl e)))
  ·exact .inl (h.inn k (.inr (.inr e)))
  ·exact .inr e
 ·rcases hk with hk | hk
  ·exact h.offq k hk
  ·have:=(hBn k hk).1
   exact ⟨fun e => by omega,fun e => by have e:k = g:=e; omega⟩
 ·rcases hk with e | e
  ·exact Nat.lt_of_lt_of_le (h.lt k e) hK.size
  ·exact (hBn k e).2
 ·rcases hk with e | e
  ·exact .inl e
  ·exact .inr ⟨(hBn k e).1,Nat.lt_of_lt_of_le (hBn k e).2 hs.size⟩
theorem rtrunc_spec (s:Nm) (n:Int) (x:Nat) (D:Dsk) (F:Nat → Prop) (w:World) (h:RefD w x D F) (ok:D.Ok) (hsl:s.length ≤ 9223372036854775807) :
  Cal Tryz.prog 135 #[.pointer (some ⟨x,0,none⟩),str s,i64 n] w fun v w' => v = i64 (dTrunc D s n).2 ∧ ∃ F',RefD w' x (dTrunc D s n).1 F' ∧ Gr F F' w w' ∧ Kp F w w':=by
 have hm:=fun w1 (k:Nw w w1) (A:Option Addr) (c:Nat) (hr:Rd w1 A ([s].map fun s => str s)) => rmay_spec [s] A c x D F w1 (h.nw k) hr (by simp) (by simpa using hsl)
 obtain ⟨L,A,c,Q,he,h0⟩:=id h
 have hll:=h0.lenL he ok
 have hsr:=h0.srt he ok
 have hlk:=dRead_look he s
 refine enter Tryz.mixed Tryz.func135 rfl (by kernel_rfl) ?_
 have ka:Nw w (w.alloc (.cells #[str s] 9)):=(Kp.refl _ _).alloc _
 simp -dsimp [go_sem]
 refine call (hm _ ka (some ⟨w.heap.size,0,none⟩) 1 (Rd.fresh rfl rfl)) ?_
 rintro v w1 ⟨rfl,rfl⟩
 have e0:dTrunc D s n = if mayL D [s] ≠ 0 then (D,mayL D [s]) else match tLook D.fs s with
  | none => (D,7)
  | some x => if n < 0 ∨ (x.b.length:Int) < n then (D,1) else (Dsk.done { D with fs:=tLay D.fs s ⟨x.b.take n.toNat,min x.l n.toNat⟩ },0):=rfl
 by_cases hz:mayL D [s] = 0
 ·rw [hz]
  rw [if_neg (by simp [hz])] at e0
  simp -dsimp [go_sem]
  refine call (rspot_spec s x D.room c D.left L A Q F _ (h0.nw ka) hll hsr) ?_
  rintro v w2 ⟨rfl,hk2⟩
  have n2:=ka.nw hk2
  have h2:=h0.nw n2
  cases ht:tLook L s with
  | none =>
   rw [hlk,ht] at e0
   rw [e0]
   simp -dsimp [go_sem]
   exact ⟨F,h.nw n2,fun k hk => .inl hk,Nw.kp n2 F⟩
  | some q =>
   obtain ⟨f,vv⟩:=q
   rw [hlk,ht] at e0
   simp only [Option.map_some] at e0
   have hat:=sp_at hsr ht
   have hlt:=(List.getElem?_eq_some_iff.1 hat).1
   have hLi:=(List.getElem?_eq_some_iff.1 hat).2
   have hmem:(s,(f,vv)) ∈ L:=List.mem_of_getElem? hat
   obtain ⟨B,d,hv,hrB,hd,hq⟩:=h2.bytes _ hmem
   simp only at hv hrB hd
   obtain ⟨_,c1,c2⟩:=fc_at L (spN L s) hlt
   have hold:=fun f' => sp_old hsr ht f'
   rw [hLi] at c1 c2
   simp only at c1 c2
   subst hv
   obtain ⟨g,rfl⟩:=h2.own.some (by omega)
   obtain ⟨b,o,e1,hc1⟩:=h2.own.rd _ _ c1
   cases e1
   rw [Nat.zero_add] at hc1
   have b1:w2.cell? ⟨x,1,none⟩ = some (.slice (some ⟨g,0,none⟩) L.length c):=h2.blk.cell 1
   have hub:f.b.length ≤ 1073741824:=by
    have h2:=sumv_ge (fun f:Fil => f.b.length) (show tLook D.fs s = some f by rw [hlk,ht]; rfl)
    have h3:=ok.used
    have h4:=ok.room
    have h5:D.used = sumv (fun f:Fil => f.b.length) D.fs:=rfl
    omega
   generalize spN L s = i at *
   by_cases hn0:n < 0
   ·rw [if_pos (.inl hn0)] at e0
    rw [e0]
    simp -dsimp [go_sem,hn0]
    exact ⟨F,h.nw n2,fun k hk => .inl hk,Nw.kp n2 F⟩
   ·by_cases hn1:(f.b.length:Int) < n
    ·rw [if_pos (.inr hn1)] at e0
     rw [e0]
     simp -dsimp [go_sem,hn0,b1,hlt,hc1,hn1]
     exact ⟨F,h.nw n2,fun k hk => .inl hk,Nw.kp n2 F⟩
    ·rw [if_neg (by omega)] at e0
     obtain ⟨m,rfl⟩:∃ m:Nat,n = m:=⟨n.toNat,by omega⟩
     rw [Int.toNat_natCast] at e0
     have hmd:m ≤ d:=by omega
     have hml:m ≤ f.b.length:=by omega
     have kd:Nw w2 w2.drew:=(Kp.refl _ _).drew
     have b1d:=kd.cell_some b1 fun h => h
     have hc1d:=kd.cell_some hc1 fun h => h
     have hlen1:(f.b.take m).length = m:=by simp [Nat.min_eq_left hml]
     simp -dsimp [go_sem,hn0,b1,hlt,hc1,hn1]
     refine drawD (.take 0 (.take 1 (.take 2 (.take 3 (.take 4 (.take 6 (.take 7 (.take 8 (.take 9 (.take 10 (.take 11 (.take 12 (.take 13 (.take 14 (.take 15 (.alt 5 (.alt 16 (.alt 17 (.alt 18 (.alt 19 .done .stop) .stop) .stop) .stop) .stop)))))))))))))))) 19 (by kernel_rfl) (fun wz => Nw w2 wz) kd ?_
     simp -dsimp [go_sem,b1d,hlt,hc1d,hmd]
     have ka2:Nw w2 (w2.alloc (.cells #[] 5)).drew:=((Kp.refl _ _).alloc _).drew
     refine ⟨fun wz hz => by simp [hz.cell_some b1 fun h => h],fun wz hz => by simp [hz.cell_some hc1 fun h => h],ka2,?_⟩
     refine gs_app Tryz.Su8 (B:=w2.heap.size) ((Gs.made w2 5 1 0 #[] rfl rfl rfl (by simp [maxLen]) (Nat.le_refl _)).nw ((Kp.refl _ _).drew)) (ys:=(f.b.take m).map u8) (m:=m) (by rw [List.map_take]; exact (hrB.nw ka2).take _) (by simp [Nat.min_eq_left hml]) (one_u8 _) (by omega) (by omega) ka2.size ?_
     intro v3 w3 hG3 hk3
     have n3:Nw w2 w3:=Nw.fr ka2 hk3 (Nat.le_refl _)
     rw [List.nil_append] at hG3
     have hB3:Bs w3 v3 (f.b.take m) w2.heap.size:=Bs.of_gs hG3 (by rw [hlen1]; omega)
     refine ⟨.inr n3,?_⟩
     obtain ⟨Q4,F4,hM4,hG4,hK4⟩:=refM_set1 h2 n3 i hlt hB3
     rw [hLi] at hM4
     simp only at hM4
     obtain ⟨B3,d3,rfl,ho3,hA3⟩:=id hB3
     have b13:=(h2.nw n3).blk.cell 1
     have hc13:=n3.cell_some hc1 fun h => h
     have hf13:=(h2.nw n3).own.frozen (i * 3 + 1)
     rw [hlen1] at hM4 hG4 hK4 ⊢
     simp -dsimp [go_sem,b13,hlt,hc13,hf13]
     generalize w3.setCell ⟨g,i * 3 + 1,none⟩ (.slice B3 m d3) = w4 at *
     obtain ⟨L4,hL4⟩:∃ L4,L4 = L.set i (s,(⟨f.b.take m,f.l⟩,Value.slice B3 m d3)):=⟨_,rfl⟩
     rw [← hL4] at hM4
     have hlen4:L4.length = L.length:=by rw [hL4]; simp
     have hlt4:i < L4.length:=by omega
     have hL4i:L4[i] = (s,(⟨f.b.take m,f.l⟩,Value.slice B3 m d3)):=by simp [hL4]
     obtain ⟨_,_,c24⟩:=fc_at L4 i hlt4
     rw [hL4i] at c24
     obtain ⟨b,o,e1,hc24⟩:=hM4.own.rd _ _ c24
     cases e1
     rw [Nat.zero_add] at hc24
     have b14:w4.cell? ⟨x,1,none⟩ = some (.slice (some ⟨g,0,none⟩) L4.length c):=hM4.blk.cell 1
     have hf24:=hM4.own.frozen (i * 3 + 2)
     rw [hlen4] at b14
     have kd4:Nw w4 w4.drew:=(Kp.refl _ _).drew
     have b14d:=kd4.cell_some b14 fun h => h
     have hc24d:=kd4.cell_some hc24 fun h => h
     have hf24d:w4.drew.frozen? ⟨g,i * 3 + 2,none⟩ = false:=hf24
     refine ⟨n3,?_⟩
     have hmin:min (f.l:Int) (m:Int) = ((min f.l m:Nat):Int):=by omega
     refine drawD (.take 0 (.take 1 (.take 2 (.take 3 (.take 4 (.take 5 (.take 6 (.take 7 (.take 8 (.take 9 (.take 10 (.take 11 (.take 12 (.take 13 (.take 14 (.alt 15 (.alt 16 (.alt 17 .done .stop) .stop) .stop)))))))))))))))) 17 (by kernel_rfl) (fun wz => Nw w4 wz) kd4 ?_
     simp -dsimp [go_sem,b14d,hlt,hc24d,hf24d,hmin]
     refine ⟨fun wz hz => by simp [hz.cell_some b14 fun h => h],fun wz hz => by simp [hz.cell_some hc24 fun h => h],kd4,?_⟩
     obtain ⟨hM5,hK5⟩:=hM4.set2 i hlt4 (min f.l m)
     rw [hL4i] at hM5
     simp only at hM5
     rw [hL4,List.set_set,← hold] at hM5
     have hM6:=hM5.nw ((Kp.refl (fun _ => False) _).drew)
     have hfs:mapv Prod.fst (tLay L s ((⟨f.b.take m,min f.l m⟩:Fil),Value.slice B3 m d3)) = tLay D.fs s ⟨f.b.take m,min f.l m⟩:=by rw [mapv_lay,he]
     have hR6:RefD _ x { D with fs:=tLay D.fs s ⟨f.b.take m,min f.l m⟩ } F4:=⟨_,_,_,_,hfs,hM6⟩
     refine call (rdid_spec x _ F4 _ hR6 (fun n hn => by have:=ok.left n hn; omega)) ?_
     rintro v w7 ⟨rfl,hR7,hk7⟩
     have hx4:F4 x:=hM6.inn x (.inl rfl)
     rw [e0]
     simp -dsimp [go_sem]
     have k24:Kp F w2 _:=hK4.trans hK5.drew fun k hk e => by
      rcases hG4 k e with e | e
      ·exact e
      ·omega
     exact ⟨F4,hR7,Gr.wide hG4 n2.size (Nat.le_trans hK5.drew.size hk7.size),((Nw.kp n2 F).trans k24 fun _ _ h => h).trans hk7 fun k _ e => by rw [show k = x from e]; exact h2.inn x (.inl rfl)⟩
 ·have hz':((mayL D [s]:Int) != 0) = true:=by simp; omega
  rw [if_pos hz] at e0
  rw [e0]
  simp -dsimp [go_sem,hz']
  exact ⟨F,h.nw ka,fun k hk => .inl hk,Nw.kp ka F⟩
/-- New since w0, and not in N. -/
abbrev Ns (w0:World) (N:Nat → Prop):Nat → Prop:=fun k => w0.heap.size ≤ k ∧ ¬ N k
/-- A disk and one of the reference, each of its own new blocks, none of which lies in N. -/
def Pr (w0 w:World) (N:Nat → Prop) (d:Nat) (D:Dsk) (x:Nat) (E:Dsk):Prop:=∃ F G,Dk w d D F ∧ RefD w x E G ∧ (∀ i,F i → ¬ G i) ∧ (∀ i,F i → Ns w0 N i) ∧ (∀ i,G i → Ns w0 N i) ∧ Nw w0 w
section
variable {w0 w w1:World} {N:Nat → Prop} {d x:Nat} {D E D':Dsk}
theorem Pr.nw (T:Pr w0 w N d D x E) (k:Nw w w1):Pr w0 w1 N d D x E:=by
 obtain ⟨F,G,h1,h2,h3,h4,h5,h6⟩:=T
 exact ⟨F,G,h1.nw k,h2.nw k,h3,h4,h5,h6.nw k⟩
theorem Pr.on (T:Pr w0 w N d D x E):Nw w0 w:=by
 obtain ⟨F,G,h1,h2,h3,h4,h5,h6⟩:=T
 exact h6
theorem Pr.ok (T:Pr w0 w N d D x E):D.Ok:=by
 obtain ⟨F,G,h1,h2,h3,h4,h5,h6⟩:=T
 exact h1.ok
theorem Pr.new (T:Pr w0 w N d D x E) {N':Nat → Prop} (hN:∀ i,N' i → N i ∨ w.heap.size ≤ i):Pr w0 w N' d D x E:=by
 obtain ⟨F,G,h1,h2,h3,h4,h5,h6⟩:=T
 exact ⟨F,G,h1,h2,h3,fun i hi => ⟨(h4 i hi).1,fun e => (hN i e).elim (h4 i hi).2 fun h => by have:=h1.lt i hi; omega⟩,fun i hi => ⟨(h5 i hi).1,fun e => (hN i e).elim (h5 i hi).2 fun h => by have:=h2.lt i hi; omega⟩,h6⟩
theorem Pr.kp {S:Nat → Prop} (T:Pr w0 w N d D x E) (k:Kp S w w1) (hS:∀ i,S i → w0.heap.size ≤ i ∧ N i):Pr w0 w1 N d D x E:=by
 obtain ⟨F,G,h1,h2,h3,h4,h5,h6⟩:=T
 exact ⟨F,G,h1.kp k fun i hi e => (h4 i hi).2 (hS i e).2,h2.kp k fun i hi e => (h5 i hi).2 (hS i e).2,h3,h4,h5,h6.at_ k fun i hi => (hS i hi).1⟩
theorem Pr.rc {k:FuncId} {args:Array Value} {Q:Value → World → Prop} (T:Pr w0 w N d E x D) (k1:Nw w w1) (hN:∀ i,N i → i < w1.heap.size)
  (h:∀ F,RefD w1 x D F → (∀ i,F i → Ns w0 N i) → (∀ i,F i → i < w.heap.size) → Cal Tryz.prog k args w1 fun v w' => Q v w' ∧ ∃ F',RefD w' x D' F' ∧ Gr F F' w1 w' ∧ Kp F w1 w') :
  Cal Tryz.prog k args w1 fun v w' => Q v w' ∧ Pr w0 w' N d E x D' ∧ Kp (Ns w0 N) w1 w':=by
 obtain ⟨F,G,h1,h2,h3,h4,h5,h6⟩:=T
 refine (h G (h2.nw k1) h5 h2.lt).mono ?_
 rintro v w' ⟨hv,G',hD,hG,hK⟩
 have h1':=h1.nw k1
 refine ⟨hv,⟨F,G',h1'.kp hK (fun i hf hg => h3 i hf hg),hD,fun i hf hg => Gr.dj hG (fun i hg hf => h3 i hf hg) h1'.lt i hg hf,h4,fun i hi => ?_,Nw.at_ (h6.nw k1) hK fun i hi => (h5 i hi).1⟩,hK.mono fun i _ hi => h5 i hi⟩
 rcases hG i hi with e | e
 ·exact h5 i e
 ·exact ⟨by have:=(h6.nw k1).size; omega,fun hn => by have:=hN i hn; omega⟩
/-- What lay there before w0 reads as it did, and is none of the disks'. -/
theorem Pr.off {A:Option Addr} {xs:List Value} {F:Nat → Prop} (hr:Rd w0 A xs) (h:∀ i,F i → Ns w0 N i):Ofl A xs F:=hr.ofl fun i hi => (h i hi).1
theorem dEach_one (f:Dsk → Nm → Fil → Dsk) (D:Dsk) (s:Nm):dEach f D [s] = dStep f D s:=by
 simp only [dEach]
 split
 ·rfl
 ·rename_i h
  have h:(dStep f D s).2 = 0:=by simpa using h
  rw [← h]
end
section
variable {w0 w w1:World} {N:Nat → Prop} {d x:Nat} {D E:Dsk}
end
end Go.Proofs.YtellahclbhfdiaaGreatDoor
