/-
  Records: plain laws. By the session itself. keep: Save, Load walked. By the session itself. List of a disk walked: the names, rising. By the session itself; on the kit's contracts on slices.Sorted(maps.Keys(m)). Texts: equality; among others. By the session itself. The reference's records walked: Encode, Decode, One, Scan. By the session itself.
-/
import Derived.Test.YtellahclbhfdiaaGreatDoorZ17
import Derived.Test.YtellahclbhfdiaaGreatDoorZ16
import Derived.Test.YtellahclbhfdiaaGreatDoorZ03
namespace Go.Proofs.YtellahclbhfdiaaGreatDoor
set_option linter.unusedSimpArgs false
set_option linter.unusedVariables false
set_option maxRecDepth 100000
open Go.Vc Go.RowKit
theorem four_from (l:List UInt8) (h:4 ≤ l.length):fourL (fromL l) = l.take 4:=by
 match l,h with
 | a :: b :: c :: d :: r,_ =>
  have ha:=UInt8.toNat_lt a
  have hb:=UInt8.toNat_lt b
  have hc:=UInt8.toNat_lt c
  have hd:=UInt8.toNat_lt d
  have e0:(a.toNat + b.toNat * 256 + c.toNat * 65536 + d.toNat * 16777216) % 256 = a.toNat:=by omega
  have e1:(a.toNat + b.toNat * 256 + c.toNat * 65536 + d.toNat * 16777216) / 256 % 256 = b.toNat:=by omega
  have e2:(a.toNat + b.toNat * 256 + c.toNat * 65536 + d.toNat * 16777216) / 65536 % 256 = c.toNat:=by omega
  have e3:(a.toNat + b.toNat * 256 + c.toNat * 65536 + d.toNat * 16777216) / 16777216 % 256 = d.toNat:=by omega
  simp only [fromL,fourL,e0,e1,e2,e3]
  simp
theorem from_four (n:Nat) (h:n < 4294967296) (r:List UInt8):fromL (fourL n ++ r) = n:=by
 simp only [fourL,List.cons_append,List.nil_append,fromL,UInt8.toNat_ofNat']
 omega
theorem fourL_inj {m n:Nat} (hm:m < 4294967296) (hn:n < 4294967296) (h:fourL m = fourL n):m = n:=by
 have h1:=from_four m hm []
 have h2:=from_four n hn []
 rw [List.append_nil] at h1 h2
 rw [← h1,h,h2]
theorem head_iff (b:List UInt8) (h:8 ≤ b.length):b.take 8 = headL (fromL b) ↔ fromL (b.drop 4) = sumL (b.take 4):=by
 have h4:=four_from b (by omega)
 have h5:=four_from (b.drop 4) (by rw [List.length_drop]; omega)
 have e:b.take 8 = b.take 4 ++ (b.drop 4).take 4:=by rw [← List.take_add]
 unfold headL
 rw [e,h4,← h5]
 constructor
 ·intro h
  exact fourL_inj (fromL_lt _) (sumL_lt _) (List.append_cancel_left h)
 ·intro h
  rw [h]
/-- A record is read as it was, whatever stands behind. -/
theorem dec_rec (p more:List UInt8) (hp:p.length ≤ 1048576):decL (recL p ++ more) = (p,p.length + 12,0):=by
 have hl:(recL p).length = p.length + 12:=by
  simp only [recL,List.length_append,headL_len,fourL_len]; omega
 have hf:fromL (recL p ++ more) = p.length:=by
  have:recL p ++ more = fourL p.length ++ (fourL (sumL (fourL p.length)) ++ p ++ fourL (sumL (headL p.length ++ p)) ++ more):=by
   simp [recL,headL]
  rw [this]
  exact from_four _ (by omega) _
 have ht8:(recL p ++ more).take 8 = headL p.length:=by
  rw [recL,List.append_assoc,List.append_assoc]
  exact List.take_left' (headL_len _)
 have htm:(recL p ++ more).take (8 + p.length) = headL p.length ++ p:=by
  rw [recL,List.append_assoc]
  exact List.take_left' (by rw [List.length_append,headL_len])
 have hdm:(recL p ++ more).drop (8 + p.length) = fourL (sumL (headL p.length ++ p)) ++ more:=by
  rw [recL,List.append_assoc]
  exact List.drop_left' (by rw [List.length_append,headL_len])
 unfold decL
 rw [hf,ht8,htm,hdm,from_four _ (sumL_lt _),if_neg (by rw [List.length_append]; omega),if_neg (fun h => h rfl),if_neg (by omega),if_neg (by rw [List.length_append]; omega),if_neg (fun h => h rfl),List.drop_left' (headL_len _),Nat.add_comm]
theorem dec_err (b:List UInt8) (h:(decL b).2.2 ≠ 0):(decL b).1 = [] ∧ (decL b).2.1 = 0:=by
 revert h
 unfold decL
 split
 ·simp
 ·split
  ·simp
  ·split
   ·simp
   ·split
    ·simp
    ·split
     ·simp
     ·simp
theorem dec_ok (b:List UInt8) (h:(decL b).2.2 = 0):b.take 8 = headL (fromL b) ∧ fromL (b.drop (8 + fromL b)) = sumL (b.take (8 + fromL b)) ∧ 12 + fromL b ≤ b.length:=by
 revert h
 unfold decL
 split
 ·simp
 ·split
  ·simp
  ·split
   ·simp
   ·split
    ·simp
    ·split
     ·simp
     ·rename_i h1 h2 h3 h4 h5
      intro _
      exact ⟨by simpa using h2,by simpa using h5,by omega⟩
theorem decL_len (b:List UInt8):(decL b).1.length ≤ b.length:=by
 unfold decL
 split
 ·simp
 ·split
  ·simp
  ·split
   ·simp
   ·split
    ·simp
    ·split
     ·simp
     ·simp; omega
theorem oneL_len (b:List UInt8):(oneL b).1.length ≤ b.length:=by
 unfold oneL
 split
 ·simp
 ·exact decL_len b
theorem recL_len (p:List UInt8):(recL p).length = p.length + 12:=by
 simp only [recL,List.length_append,headL_len,fourL_len]; omega
theorem one_rec (p:List UInt8) (hp:p.length ≤ 1048576):oneL (recL p) = (p,0):=by
 have h:=dec_rec p [] hp
 rw [List.append_nil] at h
 unfold oneL
 rw [h,recL_len,if_neg (fun h => h.2 rfl)]
set_option maxHeartbeats 1000000
/-- A text behind another one. -/
theorem cat_str (a b:Nm):(⟨a.toArray⟩:ByteArray) ++ (⟨b.toArray⟩:ByteArray) = ⟨(a ++ b).toArray⟩:=by
 apply ByteArray.ext
 simp [ByteArray.data_append]
theorem there_spec (s:Nm) (g:Nat) (D:Dsk) (F:Nat → Prop) (w:World) (h:Dk w g D F) :
  Cal Tryz.prog 201 #[.pointer (some ⟨g,0,none⟩),str s] w fun v w' => v = .bool (tLook D.fs s).isSome ∧ Nw w w':=by
 refine enter Tryz.mixed Tryz.func201 rfl (by kernel_rfl) ?_
 simp -dsimp [go_sem]
 refine call (dread_spec s g D F w h) ?_
 rintro v w1 ⟨hk,u,rfl,hB⟩
 cases hx:tLook D.fs s with
 | none =>
  have e:dRead D s = ([],7):=by unfold dRead; rw [hx]
  rw [e]
  simp -dsimp [go_sem]
  exact hk
 | some x =>
  have e:dRead D s = (x.b,0):=by unfold dRead; rw [hx]
  rw [e]
  simp -dsimp [go_sem]
  exact hk
def shadow (s:Nm):Nm:=s ++ [126]
def kW1 (D:Dsk) (sh:Nm):Dsk × Nat:=if (tLook D.fs sh).isSome then dEach fRemove D [sh] else (D,0)
def kW4 (D:Dsk) (sh s:Nm):Dsk × Nat:=if (dEach fSync D [sh]).2 ≠ 0 then dEach fSync D [sh] else dRename (dEach fSync D [sh]).1 sh s
def kW3 (D:Dsk) (sh s:Nm) (b:List UInt8):Dsk × Nat:=if (dAppend D sh b).2 ≠ 0 then dAppend D sh b else kW4 (dAppend D sh b).1 sh s
/-- A file is made to hold just these bytes. -/
def kWhole (D:Dsk) (s:Nm) (b:List UInt8):Dsk × Nat:=if (kW1 D (shadow s)).2 ≠ 0 then kW1 D (shadow s) else kW3 (kW1 D (shadow s)).1 (shadow s) s b
def kSave (D:Dsk) (s:Nm) (p:List UInt8):Dsk × Nat :=
 if s.length < 1 ∨ 60 < s.length then (D,1) else if 1048576 < p.length then (D,5) else kWhole D s (recL p)
theorem ksave_spec (s:Nm) (ps:List (List UInt8)) (A:Option Addr) (c g:Nat) (D:Dsk) (F S:Nat → Prop) (w:World) (h:Dk w g D F) (hr:Brs w A ps S) (hc:ps.length ≤ c) (hp:ps.length ≤ 140737488355328) (hl:ps.flatten.length ≤ 140737488355328) :
  Cal Tryz.prog 161 #[.pointer (some ⟨g,0,none⟩),str s,.slice A ps.length c] w fun v w' => v = i64 (kSave D s ps.flatten).2 ∧ ∃ F',Dk w' g (kSave D s ps.flatten).1 F' ∧ Gr F F' w w' ∧ Kp F w w':=by
 refine enter Tryz.mixed Tryz.func161 rfl (by kernel_rfl) ?_
 have hst0:kSave D s ps.flatten = if s.length < 1 ∨ 60 < s.length then (D,1) else if 1048576 < ps.flatten.length then (D,5) else kWhole D s (recL ps.flatten):=rfl
 obtain ⟨n,hn⟩:∃ n,n = s.length:=⟨_,rfl⟩
 by_cases h1:s.length < 1
 ·rw [if_pos (.inl h1)] at hst0
  have h1':(s.length:Int) < 1:=by omega
  simp -dsimp [go_sem,h1,h1']
  rw [hst0]
  exact ⟨rfl,F,h,fun k h => .inl h,Kp.refl _ _⟩
 have h1':¬ (s.length:Int) < 1:=by omega
 by_cases h2:60 < s.length
 ·rw [if_pos (.inr h2)] at hst0
  have h2':(60:Int) < (s.length:Int):=by omega
  simp -dsimp [go_sem,h1,h1',h2,h2']
  rw [hst0]
  exact ⟨rfl,F,h,fun k h => .inl h,Kp.refl _ _⟩
 have h2':¬ (60:Int) < (s.length:Int):=by omega
 rw [if_neg (by omega)] at hst0
 obtain ⟨p,hp'⟩:∃ p,p = ps.flatten:=⟨_,rfl⟩
 have henc:=encode_spec ps A c w S hr hc hp hl
 rw [← hp'] at hst0 henc ⊢
 simp -dsimp [go_sem,h1,h1',h2,h2']
 refine call henc ?_
 rintro v w1 ⟨hk1,⟨hb,rfl⟩ | ⟨hb,u,rfl,hB⟩⟩
 ·rw [if_pos hb] at hst0
  simp -dsimp [go_sem]
  rw [hst0]
  exact ⟨rfl,F,h.nw hk1,fun k h => .inl h,hk1.kp F⟩
 rw [if_neg (by omega)] at hst0
 have hRl0:=recL_len p
 have hD1:=h.nw hk1
 have hcat:=cat_str s [126]
 have hn60:¬ 9223372036854775807 < s.length + 1:=by omega
 have hst:kWhole D s (recL p) = if (kW1 D (s ++ [126])).2 ≠ 0 then kW1 D (s ++ [126]) else kW3 (kW1 D (s ++ [126])).1 (s ++ [126]) s (recL p):=rfl
 rw [hst0,hst]
 clear hst0 hst
 obtain ⟨sh,hsh⟩:∃ sh,sh = s ++ [126]:=⟨_,rfl⟩
 have hsl:sh.length ≤ 9223372036854775807:=by rw [hsh,List.length_append]; simp; omega
 obtain ⟨R,hR⟩:∃ R,R = recL p:=⟨_,rfl⟩
 rw [← hR] at hB hRl0 ⊢
 have hRl:R.length ≤ 140737488355328:=by omega
 obtain ⟨A5,c5,rfl,ho5,hA5⟩:=hB
 have hoff:Off A5 F:=fun a ha hf => by
  have h1:=hA5 a ha
  have h2:=h.lt _ hf
  omega
 have hc5:=ho5.2.1
 rw [← hsh] at hcat ⊢
 simp -dsimp [go_sem,hcat,hn60]
 refine call (there_spec sh g D F w1 hD1) ?_
 rintro v w2 ⟨rfl,hk2⟩
 have hD2:=hD1.nw hk2
 have hw1:kW1 D sh = if (tLook D.fs sh).isSome then dEach fRemove D [sh] else (D,0):=rfl
 cases hx:tLook D.fs sh with
 | none =>
  rw [hx] at hw1
  have hw1:kW1 D sh = (D,0):=hw1
  rw [hw1]
  have hR3:Rd w2 A5 (R.map u8):=ho5.rd.nw hk2
  have hk3:Kp F w w2:=Nw.kp (hk1.nw hk2) F
  have hg3:Gr F F w w2:=fun k h => .inl h
  obtain ⟨D3,hD3e⟩:∃ D3,D3 = D:=⟨_,rfl⟩
  obtain ⟨F3,hF3⟩:∃ F3,F3 = F:=⟨_,rfl⟩
  obtain ⟨w3,hw3⟩:∃ w3,w3 = w2:=⟨_,rfl⟩
  have hD3:Dk w3 g D3 F3:=by rw [hD3e,hF3,hw3]; exact hD2
  rw [← hw3] at hR3 hk3 hg3 ⊢
  have hg3:Gr F F3 w w3:=by rw [hF3]; exact hg3
  rw [← hD3e]
  simp -dsimp [go_sem,hcat,hn60]
  have ka:Nw w3 (w3.alloc (.cells #[.slice A5 R.length c5] 23)):=(Kp.refl _ _).alloc _
  refine call (dappend_spec sh [R] _ 1 g D3 F3 (fun _ => False) _ (hD3.nw ka) (Brs.one (p:=R) (d:=c5) (Blk.fresh rfl) (fun h => h) (hR3.nw ka) (fun _ _ h => h) hc5) (by simp) (by simp) (by simpa using hRl) hsl) ?_
  have hfl:([R]:List (List UInt8)).flatten = R:=by simp
  rw [hfl]
  rintro v w4 ⟨rfl,F4,hD4,hG4,hK4⟩
  have hka:Kp F w (w3.alloc (.cells #[.slice A5 R.length c5] 23)):=Kp.nw hk3 ka
  have hga:Gr F F3 w (w3.alloc (.cells #[.slice A5 R.length c5] 23)):=Gr.wide hg3 (Nat.le_refl _) ka.size
  have hg4:=Gr.trans hga hG4 hka.size hK4.size
  have hk4:=Kp.gr hka hga hK4
  have hw3:kW3 D3 sh s R = if (dAppend D3 sh R).2 ≠ 0 then dAppend D3 sh R else kW4 (dAppend D3 sh R).1 sh s:=rfl
  rw [hw3]
  clear hw3
  obtain ⟨B,hBd⟩:∃ B,B = dAppend D3 sh R:=⟨_,rfl⟩
  rw [← hBd] at hD4 ⊢
  obtain ⟨D4,e4⟩:=B
  simp only at hD4 ⊢
  by_cases h4:e4 = 0
  ·subst h4
   simp -dsimp [go_sem,hcat,hn60]
   have kb:Nw w4 (w4.alloc (.cells #[str sh] 9)):=(Kp.refl _ _).alloc _
   refine call (dsync_spec [sh] _ 1 g D4 F4 _ (hD4.nw kb) (Rd.fresh rfl rfl) (fun a ha _ hf => by cases ha; exact Nat.lt_irrefl _ (hD4.lt _ hf)) (by simp) (by simpa using hsl)) ?_
   rintro v w5 ⟨rfl,F5,hD5,hG5,hK5⟩
   have hkb:=Kp.nw hk4 kb
   have hgb:=Gr.wide hg4 (Nat.le_refl _) kb.size
   have hg5:=Gr.trans hgb hG5 hkb.size hK5.size
   have hk5:=Kp.gr hkb hgb hK5
   have hw4:kW4 D4 sh s = if (dEach fSync D4 [sh]).2 ≠ 0 then dEach fSync D4 [sh] else dRename (dEach fSync D4 [sh]).1 sh s:=rfl
   rw [hw4]
   clear hw4
   obtain ⟨C,hC⟩:∃ C,C = dEach fSync D4 [sh]:=⟨_,rfl⟩
   rw [← hC] at hD5 ⊢
   obtain ⟨D5,e5⟩:=C
   simp only at hD5 ⊢
   by_cases h5:e5 = 0
   ·subst h5
    simp -dsimp [go_sem,hcat,hn60]
    refine call (drename_spec sh s g D5 F5 w5 hD5 hsl (by omega)) ?_
    rintro v w6 ⟨rfl,hD6,hK6⟩
    simp -dsimp [go_sem]
    exact ⟨F5,hD6,Gr.wide hg5 (Nat.le_refl _) hK6.size,Kp.gr hk5 hg5 hK6⟩
   ·have h5':((e5:Int) != 0) = true:=by simp; omega
    simp -dsimp [go_sem,h5',h5]
    exact ⟨F5,hD5,hg5,hk5⟩
  ·have h4':((e4:Int) != 0) = true:=by simp; omega
   simp -dsimp [go_sem,h4',h4]
   exact ⟨F4,hD4,hg4,hk4⟩
 | some x =>
  rw [hx] at hw1
  have hw1:kW1 D sh = dEach fRemove D [sh]:=hw1
  rw [hw1]
  simp -dsimp [go_sem,hcat,hn60]
  have kb:Nw w2 (w2.alloc (.cells #[str sh] 9)):=(Kp.refl _ _).alloc _
  refine call (dremove_spec [sh] _ 1 g D F _ (hD2.nw kb) (Rd.fresh rfl rfl) (fun a ha _ hf => by cases ha; exact Nat.lt_irrefl _ (hD2.lt _ hf)) (by simp) (by simpa using hsl)) ?_
  rintro v w3 ⟨rfl,F3,hD3,hG3,hK3⟩
  have kn:Nw w (w2.alloc (.cells #[str sh] 9)):=(hk1.nw hk2).nw kb
  have hk3:Kp F w w3:=(Nw.kp kn F).trans hK3 fun _ _ h => h
  have hg3:Gr F F3 w w3:=Gr.wide hG3 kn.size (Nat.le_refl _)
  have hR3:Rd w3 A5 (R.map u8):=((ho5.rd.nw hk2).nw kb).kp hK3 (hoff.l _)
  obtain ⟨E,hE⟩:∃ E,E = dEach fRemove D [sh]:=⟨_,rfl⟩
  rw [← hE] at hD3 ⊢
  obtain ⟨D3,e3⟩:=E
  simp only at hD3 ⊢
  by_cases h3:e3 = 0
  ·subst h3
   rw [if_neg (fun h => h rfl)]
   simp -dsimp [go_sem,hcat,hn60]
   have ka:Nw w3 (w3.alloc (.cells #[.slice A5 R.length c5] 23)):=(Kp.refl _ _).alloc _
   refine call (dappend_spec sh [R] _ 1 g D3 F3 (fun _ => False) _ (hD3.nw ka) (Brs.one (p:=R) (d:=c5) (Blk.fresh rfl) (fun h => h) (hR3.nw ka) (fun _ _ h => h) hc5) (by simp) (by simp) (by simpa using hRl) hsl) ?_
   have hfl:([R]:List (List UInt8)).flatten = R:=by simp
   rw [hfl]
   rintro v w4 ⟨rfl,F4,hD4,hG4,hK4⟩
   have hka:Kp F w (w3.alloc (.cells #[.slice A5 R.length c5] 23)):=Kp.nw hk3 ka
   have hga:Gr F F3 w (w3.alloc (.cells #[.slice A5 R.length c5] 23)):=Gr.wide hg3 (Nat.le_refl _) ka.size
   have hg4:=Gr.trans hga hG4 hka.size hK4.size
   have hk4:=Kp.gr hka hga hK4
   have hw3:kW3 D3 sh s R = if (dAppend D3 sh R).2 ≠ 0 then dAppend D3 sh R else kW4 (dAppend D3 sh R).1 sh s:=rfl
   rw [hw3]
   clear hw3
   obtain ⟨B,hBd⟩:∃ B,B = dAppend D3 sh R:=⟨_,rfl⟩
   rw [← hBd] at hD4 ⊢
   obtain ⟨D4,e4⟩:=B
   simp only at hD4 ⊢
   by_cases h4:e4 = 0
   ·subst h4
    simp -dsimp [go_sem,hcat,hn60]
    have kb:Nw w4 (w4.alloc (.cells #[str sh] 9)):=(Kp.refl _ _).alloc _
    refine call (dsync_spec [sh] _ 1 g D4 F4 _ (hD4.nw kb) (Rd.fresh rfl rfl) (fun a ha _ hf => by cases ha; exact Nat.lt_irrefl _ (hD4.lt _ hf)) (by simp) (by simpa using hsl)) ?_
    rintro v w5 ⟨rfl,F5,hD5,hG5,hK5⟩
    have hkb:=Kp.nw hk4 kb
    have hgb:=Gr.wide hg4 (Nat.le_refl _) kb.size
    have hg5:=Gr.trans hgb hG5 hkb.size hK5.size
    have hk5:=Kp.gr hkb hgb hK5
    have hw4:kW4 D4 sh s = if (dEach fSync D4 [sh]).2 ≠ 0 then dEach fSync D4 [sh] else dRename (dEach fSync D4 [sh]).1 sh s:=rfl
    rw [hw4]
    clear hw4
    obtain ⟨C,hC⟩:∃ C,C = dEach fSync D4 [sh]:=⟨_,rfl⟩
    rw [← hC] at hD5 ⊢
    obtain ⟨D5,e5⟩:=C
    simp only at hD5 ⊢
    by_cases h5:e5 = 0
    ·subst h5
     simp -dsimp [go_sem,hcat,hn60]
     refine call (drename_spec sh s g D5 F5 w5 hD5 hsl (by omega)) ?_
     rintro v w6 ⟨rfl,hD6,hK6⟩
     simp -dsimp [go_sem]
     exact ⟨F5,hD6,Gr.wide hg5 (Nat.le_refl _) hK6.size,Kp.gr hk5 hg5 hK6⟩
    ·have h5':((e5:Int) != 0) = true:=by simp; omega
     simp -dsimp [go_sem,h5',h5]
     exact ⟨F5,hD5,hg5,hk5⟩
   ·have h4':((e4:Int) != 0) = true:=by simp; omega
    simp -dsimp [go_sem,h4',h4]
    exact ⟨F4,hD4,hg4,hk4⟩
  ·have h3':((e3:Int) != 0) = true:=by simp; omega
   simp -dsimp [go_sem,h3',h3]
   exact ⟨F3,hD3,hg3,hk3⟩
def kLoad (D:Dsk) (s:Nm):List UInt8 × Nat:=if (dRead D s).2 ≠ 0 then ([],(dRead D s).2) else if (oneL (dRead D s).1).2 ≠ 0 then ([],3) else ((oneL (dRead D s).1).1,0)
theorem kload_spec (s:Nm) (g:Nat) (D:Dsk) (F:Nat → Prop) (w:World) (h:Dk w g D F) :
  Cal Tryz.prog 165 #[.pointer (some ⟨g,0,none⟩),str s] w fun v w' => Nw w w' ∧ ∃ u,v = .tuple #[u,i64 (kLoad D s).2] ∧ Bs w' u (kLoad D s).1 w.heap.size:=by
 have hlen:(dRead D s).1.length ≤ 1073741824:=by
  have h1:=h.ok.used
  have h2:=h.ok.room
  unfold dRead
  cases hx:tLook D.fs s with
  | none => simp
  | some x =>
   have:x.b.length ≤ D.used:=sumv_ge (fun f:Fil => f.b.length) hx
   simp only
   omega
 refine enter Tryz.mixed Tryz.func165 rfl (by kernel_rfl) ?_
 have hst:kLoad D s = if (dRead D s).2 ≠ 0 then ([],(dRead D s).2) else if (oneL (dRead D s).1).2 ≠ 0 then ([],3) else ((oneL (dRead D s).1).1,0):=rfl
 simp -dsimp [go_sem]
 refine call (dread_spec s g D F w h) ?_
 rintro v w1 ⟨hk,u,rfl,hB⟩
 obtain ⟨E,hE⟩:∃ E,E = dRead D s:=⟨_,rfl⟩
 rw [← hE] at hB hst hlen ⊢
 obtain ⟨b,e⟩:=E
 simp only at hB hst hlen ⊢
 by_cases h0:e = 0
 ·subst h0
  rw [if_neg (fun h => h rfl)] at hst
  obtain ⟨A1,c1,rfl,ho1,hA1⟩:=hB
  simp -dsimp [go_sem]
  refine call (one_spec b A1 c1 w1 ho1.rd ho1.2.1 (by omega)) ?_
  rintro v w2 ⟨hk2,u,rfl,hB2⟩
  have k2:=hk.nw hk2
  obtain ⟨O,hO⟩:∃ O,O = oneL b:=⟨_,rfl⟩
  rw [← hO] at hB2 hst ⊢
  obtain ⟨p,e2⟩:=O
  simp only at hB2 hst ⊢
  by_cases h2:e2 = 0
  ·subst h2
   rw [if_neg (fun h => h rfl)] at hst
   simp -dsimp [go_sem]
   rw [hst]
   exact ⟨k2,u,⟨rfl,rfl⟩,hB2.mono hk.size⟩
  ·have h2':((e2:Int) != 0) = true:=by simp; omega
   rw [if_pos h2] at hst
   simp -dsimp [go_sem,h2']
   rw [hst]
   exact ⟨k2,_,⟨rfl,rfl⟩,Bs.nil _ _⟩
 ·have h0':((e:Int) != 0) = true:=by simp; omega
  rw [if_pos h0] at hst
  simp -dsimp [go_sem,h0']
  rw [hst]
  exact ⟨hk,_,⟨rfl,rfl⟩,Bs.nil _ _⟩
theorem laySorts (m:Nat):AnyZ.SortsIn Tryz.prog Tryz.sorted240_ren Fence.wide m :=
 ⟨fun blk off cap ss W hH hblk hsz => callsIn_wide.2 (AnyM.slices_Sort_string Tryz.sort114 blk off cap ss W hH hblk hsz),
  fun p cap W => callsIn_wide.2 (AnyM.slices_Sort_string_none Tryz.sort114 p cap W)⟩
theorem layKeys (mb:Option Nat) (W:World):CallsIn Fence.wide 5 Tryz.prog 241 #[.map mb] W fun e w' => e = .returned (.func (.func 259) #[] #[.pointer (some ⟨W.heap.size,0,none⟩)]) ∧ w' = W.alloc (.cells #[.map mb] 129) :=
 AnyZ.keys_in Tryz.keys241 Fence.wide 5 trivial rfl mb W
theorem laySorted {H:Type} (b nn:Nat) (D0:DataW H) (R:Value → Option (DataW H × List MemPlace)) (w:World) (hown:w.ownsMap Tryz.prog 9 R b nn D0) (hmax:Maps.size D0 ≤ maxLen) (hbytes:Maps.size D0 * 16 ≤ 140737488355328) :
  CallsIn Fence.wide 5 Tryz.prog 240 #[.func (.func 259) #[] #[.pointer (some ⟨w.heap.size,0,none⟩)]] (w.alloc (.cells #[.map (some b)] 129)) fun e w' => ∃ (v:Value) (ss:List (List UInt8)),e = .returned v ∧ ss.Perm (strKeys D0) ∧
   w'.ownsRow (w.alloc (.cells #[.map (some b)] 129)).heap.size 9 1 v ss.length ((ss.mergeSort (fun x y => decide (x ≤ y))).map encStr) ∧ (v = .slice none 0 0 ↔ ss = []) ∧ Below (w.alloc (.cells #[.map (some b)] 129)).heap.size (w.alloc (.cells #[.map (some b)] 129)) w':=by
 have hbl:=hown.lt
 have hseq:SeqGives Fence.wide 2 Tryz.prog 259 #[.pointer (some ⟨w.heap.size,0,none⟩)] encStr (fun ss => ss.Perm (strKeys D0)) (Maps.size D0) (w.alloc (.cells #[.map (some b)] 129)) :=
  AnyZ.keys_gives (ρ:=Tryz.keys241_ren) { Tryz.keys241 with } Fence.wide _ trivial rfl (by omega) w.heap.size b nn D0 _ (by simp) (by simp) (by
   obtain ⟨es,clock,hb,Ft,hs,hD⟩:=hown
   exact ⟨es,clock,(Below.heap_alloc _ _ b hbl).trans hb,Ft,hs,hD⟩)
 exact AnyZ.sorted_in Tryz.sorted240 Fence.wide 5 trivial trivial trivial trivial rfl (by omega) (laySorts _) (enters_of Tryz.func114 (by kernel_rfl) rfl) 259 #[.pointer (some ⟨w.heap.size,0,none⟩)] trivial (enters_of Tryz.func259 (by kernel_rfl) rfl) _ _ hmax hbytes _ hseq
/-- Every element reads as nothing. -/
def R0:Value → Option (DataW Unit × List MemPlace):=fun _ => some (.nil,[])
theorem owns_of_mp {P:Program} {k:TypeId} (hk:P.underlying k = some .string) {w:World} {r:Nat} {m:Nm → Option Value} (h:Mp w r (fun l:Nm => str l) m) {l:List Nm} (nd:l.Nodup) (hm:∀ a,(m a).isSome = true ↔ a ∈ l) (hb:∀ a ∈ l,a.length ≤ maxLen) (hl:l.length ≤ maxLen) :
  ∃ D0:DataW Unit,w.ownsMap P k R0 r l.length D0 ∧ (strKeys D0).Perm l ∧ Maps.size D0 = l.length:=by
 obtain ⟨E,clock,hh,hE⟩:=h
 have key:∀ x ∈ E.toList,∃ a:Nm,x.key = str a ∧ a ∈ l:=fun x hx => by
  obtain ⟨a,ha⟩:=hE.keys x hx
  exact ⟨a,ha,(hm a).1 (by rw [(hE.has a x.val).2 ⟨x,hx,ha,rfl⟩]; rfl)⟩
 have rdx:∀ x ∈ E.toList,∀ a:Nm,x.key = str a → a ∈ l → WideElems.rd P k R0 x = some (.string a,.nil):=fun x hx a ha hal => by
  have hs:(⟨a.toArray⟩:ByteArray).size ≤ maxLen:=by simpa [ByteArray.size] using hb a hal
  have hko:keyOf P k (str a) = some (.string a):=by
   simp [keyOf,hk,mapKey,hs]
  unfold WideElems.rd
  rw [ha,hko]
  rfl
 have hperm:(E.toList.map fun x => strOf (WideElems.rg P k R0 x).1).Perm l:=by
  refine (List.perm_ext_iff_of_nodup ?_ nd).2 fun a => ?_
  ·refine List.pairwise_map.2 (hE.apart.imp_of_mem fun {x y} hx hy hne => ?_)
   obtain ⟨a,ha,hal⟩:=key x hx
   obtain ⟨b,hb',hbl⟩:=key y hy
   unfold WideElems.rg
   rw [rdx x hx a ha hal,rdx y hy b hb' hbl]
   simp only [Option.getD_some,strOf]
   intro e
   exact hne (by rw [ha,hb',e])
  ·constructor
   ·intro h
    obtain ⟨x,hx,rfl⟩:=List.mem_map.1 h
    obtain ⟨a,ha,hal⟩:=key x hx
    unfold WideElems.rg
    rw [rdx x hx a ha hal]
    exact hal
   ·intro hal
    have:=(hm a).2 hal
    cases hma:m a with
    | none => rw [hma] at this; cases this
    | some u =>
     obtain ⟨x,hx,hxk,_⟩:=(hE.has a u).1 hma
     refine List.mem_map.2 ⟨x,hx,?_⟩
     unfold WideElems.rg
     rw [rdx x hx a hxk hal]
     rfl
 have hlen:E.size = l.length:=by
  have:=hperm.length_eq
  rw [List.length_map,Array.length_toList] at this
  exact this
 refine ⟨.map ((E.toList.map (WideElems.rg P k R0)).foldr DataW.insert []),⟨E,clock,hh,⟨by omega,?_,fun x hx => ?_⟩,by omega,rfl⟩,?_,?_⟩
 ·exact ⟨hE.old,hE.stamps,List.pairwise_map.2 hE.apart⟩
 ·obtain ⟨a,ha,hal⟩:=key x hx
  exact ⟨_,rdx x hx a ha hal⟩
 ·have h1:=(Go.WideShapes.sorted_perm (E.toList.map (WideElems.rg P k R0))).map fun p => strOf p.1
  refine List.Perm.trans h1 ?_
  rw [List.map_map]
  exact hperm
 ·have h1:=(Go.WideShapes.sorted_perm (E.toList.map (WideElems.rg P k R0))).length_eq
  rw [Maps.size_eq,h1,List.length_map,Array.length_toList,hlen]
theorem keys_sorted {β:Type} {l:List (Nm × β)} (h:Srt l):(keysA l).mergeSort (fun x y => decide (x ≤ y)) = keysA l:=by
 refine List.mergeSort_of_pairwise ?_
 refine List.pairwise_map.2 (List.Pairwise.imp (R:=fun x y:Nm × β => x.1 < y.1) (fun {a b} h => ?_) h)
 have:¬ b.1 < a.1:=fun h' => nm_lt_irrefl _ (nm_lt_trans h h')
 simpa using this
theorem dlist_spec (g:Nat) (D:Dsk) (F:Nat → Prop) (w:World) (h:Dk w g D F) :
  Cal Tryz.prog 206 #[.pointer (some ⟨g,0,none⟩)] w fun v w' => Nw w w' ∧ ∃ A c,v = .slice A D.fs.length c ∧ Rd w' A ((keysA D.fs).map fun s => str s) ∧ D.fs.length ≤ c ∧ ∀ a,A = some a → w.heap.size ≤ a.block:=by
 obtain ⟨ok,r,z,ptr,Fs,hM⟩:=id h
 have g1:=hM.blk.cell 1
 have hks:∀ t,(Mf ptr D.fs t).isSome = true ↔ t ∈ keysA D.fs:=fun t => by rw [← tLook_keys]; simp [Mf]
 have hnd:(keysA D.fs).Nodup:=List.pairwise_map.2 (List.Pairwise.imp (R:=fun x y:Nm × Fil => x.1 < y.1) (fun h e => nm_ne h e) ok.srt)
 have hkl:(keysA D.fs).length = D.fs.length:=by simp [keysA]
 have hmany:=ok.many
 obtain ⟨D0,hown,hperm,hsize⟩:=owns_of_mp (P:=Tryz.prog) (k:=9) (by kernel_rfl) hM.mp hnd hks (fun a ha => by
  obtain ⟨x,hx⟩:=Option.isSome_iff_exists.1 ((tLook_keys a).2 ha)
  have:=ok.names a x hx
  simp only [maxLen]; omega) (by simp only [maxLen]; omega)
 refine enter Tryz.mixed Tryz.func206 rfl (by kernel_rfl) ?_
 simp -dsimp [go_sem,g1]
 refine call (R:=fun v w' => v = .func (.func 259) #[] #[.pointer (some ⟨w.heap.size,0,none⟩)] ∧ w' = w.alloc (.cells #[.map (some r)] 129)) ((callsIn_wide.1 (layKeys (some r) w)).mono fun e w' ⟨he,hw⟩ => ⟨_,he,rfl,hw⟩) ?_
 rintro v w1 ⟨rfl,rfl⟩
 simp -dsimp [go_sem]
 have hs:=callsIn_wide.1 (laySorted r _ D0 R0 w hown (by rw [hsize]; simp only [maxLen]; omega) (by rw [hsize]; omega))
 have ka:Nw w (w.alloc (.cells #[.map (some r)] 129)):=(Kp.refl _ _).alloc _
 refine call (R:=fun v w' => ∃ ss:List (List UInt8),ss.Perm (strKeys D0) ∧ w'.ownsRow (w.alloc (.cells #[.map (some r)] 129)).heap.size 9 1 v ss.length ((ss.mergeSort (fun x y => decide (x ≤ y))).map encStr) ∧ Below (w.alloc (.cells #[.map (some r)] 129)).heap.size (w.alloc (.cells #[.map (some r)] 129)) w') (hs.mono fun e w' ⟨v,ss,he,h1,h2,_,h3⟩ => ⟨v,he,ss,h1,h2,h3⟩) ?_
 rintro v w2 ⟨ss,h1,h2,h3⟩
 have hss:ss.mergeSort (fun x y => decide (x ≤ y)) = keysA D.fs:=by
  rw [← keys_sorted ok.srt]
  exact mergeSort_of_perm (h1.trans hperm)
 have hlen:ss.length = D.fs.length:=by
  have:=(h1.trans hperm).length_eq
  rw [this,hkl]
 rw [hss,hlen] at h2
 simp -dsimp [go_sem]
 have kb:Nw (w.alloc (.cells #[.map (some r)] 129)) w2:=⟨h3.os,h3.tape,h3.output,h3.size,fun k hk _ => h3.block k hk⟩
 refine ⟨ka.nw kb,?_⟩
 obtain ⟨g1,⟨rfl,g2⟩ | ⟨p,cap,cur,rfl,g2,g3,g4,g5,g6,g7⟩⟩:=h2
 ·have:D.fs = []:=List.eq_nil_of_length_eq_zero g2
  rw [this]
  exact ⟨none,0,rfl,Rd.nil _ _,Nat.le_refl _,by simp⟩
 ·refine ⟨some ⟨p,0,none⟩,cap,rfl,?_,g4,fun a ha => ?_⟩
  ·have:=(Rd.of_heap g3).take (D.fs.length * 1)
   rw [g7] at this
   exact this
  ·cases ha
   show w.heap.size ≤ p
   simp at g2
   omega
theorem Dk.ofl_new {w:World} {g:Nat} {D:Dsk} {F:Nat → Prop} (h:Dk w g D F) {b:Nat} (hb:w.heap.size ≤ b) (xs:List Value):Ofl (some ⟨b,0,none⟩) xs F:=fun a ha _ hf => by
 cases ha
 have:=h.lt b hf
 omega
theorem index_spec (xs:List Nm) (s:Nm) (A:Option Addr) (c:Nat) (w:World) (hx:Rd w A (xs.map fun s => str s)) (hl:xs.length ≤ 140737488355328) :
  Cal Tryz.prog 239 #[.slice A xs.length c,str s] w fun v w' => (∃ z:Int,v = i64 z ∧ (0 ≤ z ↔ s ∈ xs)) ∧ w' = w:=by
 refine enter Tryz.mixed Tryz.func239 rfl (by kernel_rfl) ?_
 simp -dsimp [go_sem]
 refine loop [4,5,8,9,10,11,12,13,14,15,16,17,18] (by kernel_rfl) (fun f w' => Box1 (fun a w' => ∃ k:Nat,k ≤ xs.length ∧ a = i64 k ∧ s ∉ xs.take k ∧ w' = w) (f 8) w')
  (fun f _ => xs.length - (intOf (f 8)).toNat) ⟨0,Nat.zero_le _,rfl,by simp,rfl⟩ ?_
 rintro f w' ⟨k,hk,f8,hno,rfl⟩
 simp -dsimp [go_sem,f8]
 refine cond_d (fun hlt => ?_) (fun hlt => ?_)
 ·have hlt:k < xs.length:=by omega
  obtain ⟨b,o,rfl,hc⟩:=hx k (str xs[k]) (by simp [hlt])
  have htk:xs.take (k + 1) = xs.take k ++ [xs[k]]:=List.take_succ_eq_append_getElem hlt
  have hmem:=List.getElem_mem hlt
  obtain ⟨a,ha⟩:∃ a,a = xs[k]:=⟨_,rfl⟩
  rw [← ha] at hc htk hmem
  by_cases hab:s = a
  ·subst hab
   simp -dsimp [go_sem,f8,hlt,hc]
   exact hmem
  ·have hab':(s == a) = false:=by simpa using hab
   have hk1:IntKind.i64.wrap ((k:Int) + 1) = ((k + 1:Nat):Int):=w64 (by omega) (by omega)
   obtain ⟨k1,hk1'⟩:∃ k1,k1 = k + 1:=⟨_,rfl⟩
   rw [← hk1'] at hk1 htk
   simp -dsimp [go_sem,f8,hlt,hc,hab',hk1]
   refine ⟨⟨k1,by omega,rfl,?_,rfl⟩,by simp [intOf]; omega⟩
   rw [htk]
   simp [hno,hab]
 ·obtain rfl:k = xs.length:=by omega
  rw [List.take_length] at hno
  simp -dsimp [go_sem]
  exact hno
theorem contains_spec (xs:List Nm) (s:Nm) (A:Option Addr) (c:Nat) (w:World) (hx:Rd w A (xs.map fun s => str s)) (hl:xs.length ≤ 140737488355328) :
  Cal Tryz.prog 205 #[.slice A xs.length c,str s] w fun v w' => v = .bool (decide (s ∈ xs)) ∧ w' = w:=by
 refine enter Tryz.mixed Tryz.func205 rfl (by kernel_rfl) ?_
 simp -dsimp [go_sem]
 refine call (index_spec xs s A c w hx hl) ?_
 rintro v w1 ⟨⟨z,rfl,hz⟩,rfl⟩
 simp -dsimp [go_sem]
 exact hz
theorem refDecode_spec (b:List UInt8) (A:Option Addr) (c:Nat) (w:World) (hr:Rd w A (b.map u8)) (hc:b.length ≤ c) (hl:b.length ≤ 140737488355328) :
  Cal Tryz.prog 224 #[.slice A b.length c] w fun v w' => Nw w w' ∧ ∃ u,v = .tuple #[u,i64 (decL b).2.1,i64 (decL b).2.2] ∧ Bs w' u (decL b).1 w.heap.size:=by
 refine enter Tryz.mixed Tryz.func224 rfl (by kernel_rfl) ?_
 obtain ⟨L,hL⟩:∃ L,L = b.length:=⟨_,rfl⟩
 rw [← hL] at hc hl ⊢
 simp -dsimp [go_sem]
 refine cond_d (fun h8 => ?_) (fun h8 => ?_)
 ·have e:decL b = ([],0,2):=by unfold decL; rw [if_pos (by omega)]
  simp -dsimp [go_sem]
  rw [e]
  exact ⟨Kp.refl _ _,_,⟨rfl,rfl,rfl⟩,Bs.nil _ _⟩
 ·have u8':¬ b.length < 8:=by omega
  have hnl:=fromL_lt b
  obtain ⟨n,hn⟩:∃ n,n = fromL b:=⟨_,rfl⟩
  have h4c:4 ≤ c:=by omega
  have h4c':(4:Int) ≤ (c:Int):=by omega
  have h4L:4 ≤ L:=by omega
  have h4L':(4:Int) ≤ (L:Int):=by omega
  simp -dsimp [go_sem]
  refine draw (.take 0 (.take 1 (.take 3 (.take 4 (.alt 2 (.alt 5 (.take 6 .done) .stop) .stop))))) (by kernel_rfl) (fun _ => True) trivial ?_
  simp -dsimp [go_sem,h4c,h4c',h4L,h4L']
  have hd4:(b.drop 4).length = L - 4:=by rw [List.length_drop,hL]
  have hf2:=refFrom_spec (b.drop 4) (by omega) (cutA A c 4) (c - 4) w.drew (by rw [List.map_drop]; exact (hr.nw ((Kp.refl _ _).drew)).cut (by simp; omega) 4)
  rw [hd4] at hf2
  refine call hf2 ?_
  rintro v w1 ⟨rfl,hk1⟩
  have k1:Nw w w1:=((Kp.refl _ w).drew).nw hk1
  have ht4:(b.take 4).length = 4:=by rw [List.length_take]; omega
  have hs:=refSum_spec (b.take 4) A c w1 (by rw [List.map_take]; exact (hr.nw k1).take 4) (by omega)
  rw [ht4] at hs
  simp -dsimp [go_sem]
  refine call hs ?_
  rintro v w2 ⟨rfl,rfl⟩
  have hiff:=head_iff b (by omega)
  obtain ⟨y,hy⟩:∃ y,y = fromL (b.drop 4):=⟨_,rfl⟩
  obtain ⟨z,hz⟩:∃ z,z = sumL (b.take 4):=⟨_,rfl⟩
  rw [← hy,← hz] at hiff
  rw [← hy,← hz]
  simp -dsimp [go_sem]
  refine cond_n (fun hne => ?_) (fun he => ?_)
  ·have e:decL b = ([],0,4):=by unfold decL; rw [if_neg u8',if_pos (fun h => by have:=hiff.1 h; omega)]
   simp -dsimp [go_sem]
   rw [e]
   exact ⟨k1,_,⟨rfl,rfl,rfl⟩,Bs.nil _ _⟩
  ·have hh':¬ b.take 8 ≠ headL (fromL b):=fun h => h (hiff.2 (by omega))
   have hff:=refFrom_spec b (by omega) A c w2 (hr.nw k1)
   rw [← hL,← hn] at hff
   simp -dsimp [go_sem]
   refine call hff ?_
   rintro v w3 ⟨rfl,hk3⟩
   have k3:=k1.nw hk3
   have w3':IntKind.i64.wrap (n:Int) = n:=w64 (by omega) (by omega)
   simp -dsimp [go_sem,w3']
   refine cond_d (fun hbig => ?_) (fun hbig => ?_)
   ·have e:decL b = ([],0,5):=by unfold decL; rw [if_neg u8',if_neg hh',if_pos (by omega)]
    simp -dsimp [go_sem]
    rw [e]
    exact ⟨k3,_,⟨rfl,rfl,rfl⟩,Bs.nil _ _⟩
   ·have hbig':¬ 1048576 < fromL b:=by omega
    have w12:IntKind.i64.wrap (12 + (n:Int)) = ((12 + n:Nat):Int):=w64 (by omega) (by omega)
    obtain ⟨t,ht⟩:∃ t,t = 12 + n:=⟨_,rfl⟩
    rw [← ht] at w12
    simp -dsimp [go_sem,w12]
    refine cond_d (fun hs => ?_) (fun hs => ?_)
    ·have e:decL b = ([],0,2):=by unfold decL; rw [if_neg u8',if_neg hh',if_neg hbig',if_pos (by omega)]
     simp -dsimp [go_sem]
     rw [e]
     exact ⟨k3,_,⟨rfl,rfl,rfl⟩,Bs.nil _ _⟩
    ·have hs':¬ b.length < 12 + fromL b:=by omega
     have w4':IntKind.i64.wrap (8 + (n:Int)) = ((8 + n:Nat):Int):=w64 (by omega) (by omega)
     obtain ⟨m,hm⟩:∃ m,m = 8 + n:=⟨_,rfl⟩
     rw [← hm] at w4'
     have hmc:m ≤ c:=by omega
     have hmL:m ≤ L:=by omega
     have hmL':(m:Int) ≤ (L:Int):=by omega
     have hm8:8 ≤ m:=by omega
     have hm8':(8:Int) ≤ (m:Int):=by omega
     simp -dsimp [go_sem]
     refine draw (.take 0 (.take 1 (.take 2 (.take 3 (.take 5 (.take 6 (.take 7 (.take 8 (.alt 4 (.alt 9 (.take 10 .done) .stop) .stop))))))))) (by kernel_rfl) (fun _ => True) trivial ?_
     simp -dsimp [go_sem,w4',hmc,hmL,hmL']
     have hdl:(b.drop m).length = L - m:=by rw [List.length_drop,hL]
     have hf3:=refFrom_spec (b.drop m) (by omega) (cutA A c m) (c - m) w3.drew (by rw [List.map_drop]; exact ((hr.nw k3).nw ((Kp.refl _ _).drew)).cut (by simp; omega) m)
     rw [hdl] at hf3
     refine call hf3 ?_
     rintro v w4 ⟨rfl,hk4⟩
     have k4:Nw w w4:=(k3.drew).nw hk4
     have htl:(b.take m).length = m:=by rw [List.length_take]; omega
     have hs2:=refSum_spec (b.take m) A c w4 (by rw [List.map_take]; exact (hr.nw k4).take m) (by omega)
     rw [htl] at hs2
     simp -dsimp [go_sem]
     refine call hs2 ?_
     rintro v w5 ⟨rfl,rfl⟩
     obtain ⟨y2,hy2⟩:∃ y,y = fromL (b.drop m):=⟨_,rfl⟩
     obtain ⟨z2,hz2⟩:∃ z,z = sumL (b.take m):=⟨_,rfl⟩
     rw [← hy2,← hz2]
     simp -dsimp [go_sem]
     refine cond_n (fun hne => ?_) (fun he2 => ?_)
     ·have e:decL b = ([],0,4):=by
       unfold decL
       rw [if_neg u8',if_neg hh',if_neg hbig',if_neg hs',if_pos (by rw [← hn,← hm,← hy2,← hz2]; omega)]
      simp -dsimp [go_sem]
      rw [e]
      exact ⟨k4,_,⟨rfl,rfl,rfl⟩,Bs.nil _ _⟩
     ·have e:decL b = ((b.take m).drop 8,12 + n,0):=by
       unfold decL
       rw [if_neg u8',if_neg hh',if_neg hbig',if_neg hs',if_neg (by rw [← hn,← hm,← hy2,← hz2]; omega),← hn,← hm]
      simp -dsimp [go_sem,w4',hmc,hm8,hm8',w12]
      have hcl:((b.take m).drop 8).length = m - 8:=by rw [List.length_drop,htl]
      have hrx:Rd w5 (cutA A c 8) (((b.take m).drop 8).map u8):=by
       rw [List.map_drop]
       refine Rd.cut ?_ (by simp; omega) 8
       rw [List.map_take]
       exact (hr.nw k4).take m
      have ka:Nw w5 (w5.alloc (.cells #[] 5)):=(Kp.refl _ _).alloc _
      rw [← hcl]
      refine bs_app (m:=(b.take m).drop 8) (l:=[]) (B:=w.heap.size) (Gs.made w5 5 1 0 #[] rfl rfl rfl (by simp [maxLen]) k4.size) (hrx.nw ka) (by simp; omega) (Nw.kp (k4.nw ka) (fun _ => False)).size ?_
      intro v6 w6 hB6 hk6
      rw [List.nil_append] at hB6
      simp -dsimp [go_sem,w12]
      rw [e]
      exact ⟨Nw.fr (k4.nw ka) hk6 (Nat.le_refl _),_,⟨rfl,by rw [ht],rfl⟩,hB6⟩
theorem refOne_spec (b:List UInt8) (A:Option Addr) (c:Nat) (w:World) (hr:Rd w A (b.map u8)) (hc:b.length ≤ c) (hl:b.length ≤ 140737488355328) :
  Cal Tryz.prog 223 #[.slice A b.length c] w fun v w' => Nw w w' ∧ ∃ u,v = .tuple #[u,i64 (oneL b).2] ∧ Bs w' u (oneL b).1 w.heap.size:=by
 refine enter Tryz.mixed Tryz.func223 rfl (by kernel_rfl) ?_
 simp -dsimp [go_sem]
 refine call (refDecode_spec b A c w hr hc hl) ?_
 rintro v w1 ⟨hk,u,rfl,hB⟩
 have her:=dec_err b
 obtain ⟨n,hn⟩:∃ n,n = (decL b).2.1:=⟨_,rfl⟩
 obtain ⟨e,he⟩:∃ e,e = (decL b).2.2:=⟨_,rfl⟩
 rw [← hn,← he]
 rw [← he] at her
 obtain ⟨L,hL⟩:∃ L,L = b.length:=⟨_,rfl⟩
 rw [← hL]
 by_cases h0:e = 0
 ·subst h0
  by_cases h1:n = L
  ·have e1:oneL b = ((decL b).1,(decL b).2.2):=by
    unfold oneL
    rw [if_neg (by rw [← hn,← he,← hL]; omega)]
   have h1':((n:Int) != (L:Int)) = false:=by simp; omega
   simp -dsimp [go_sem,h1']
   rw [e1]
   exact ⟨hk,u,⟨rfl,by rw [← he]; rfl⟩,hB⟩
  ·have e1:oneL b = ([],3):=by
    unfold oneL
    rw [if_pos (by rw [← hn,← he,← hL]; exact ⟨rfl,h1⟩)]
   have h1':((n:Int) != (L:Int)) = true:=by simp; omega
   simp -dsimp [go_sem,h1']
   rw [e1]
   exact ⟨hk,_,⟨rfl,rfl⟩,Bs.nil _ _⟩
 ·have e1:oneL b = ([],e):=by
   unfold oneL
   rw [if_neg (by rw [← he]; exact fun h => h0 h.1),(her h0).1,← he]
  have h0':((e:Int) == 0) = false:=by simp; omega
  have h0'':((e:Int) != 0) = true:=by simp; omega
  simp -dsimp [go_sem,h0',h0'']
  rw [e1]
  exact ⟨hk,_,⟨rfl,rfl⟩,Bs.nil _ _⟩
end Go.Proofs.YtellahclbhfdiaaGreatDoor
