/-
  The reference's Reader: Bad, Raw, Num, Bytes, Whole walked. By the session itself. A store's plans walked: creates, renames. By the session itself.
-/
import Derived.Test.YtellahclbhfdiaaGreatDoorZ08
import Derived.Test.YtellahclbhfdiaaGreatDoorZ23
namespace Go.Proofs.YtellahclbhfdiaaGreatDoor
set_option linter.unusedSimpArgs false
set_option linter.unusedVariables false
set_option maxRecDepth 100000
set_option maxHeartbeats 1000000
open Go.Vc Go.RowKit
theorem ofl_cut {A:Option Addr} {xs:List Value} {S:Nat → Prop} (h:Ofl A xs S) (c m:Nat):Ofl (cutA A c m) (xs.drop m) S:=fun a ha hx hs => by
 have hk:blk A a.block:=blk_cut (c:=c) (m:=m) (by rw [ha]; rfl)
 obtain ⟨a0,ha0,e⟩:=blk_of hk
 exact h a0 ha0 (fun e2 => hx (by rw [e2]; simp)) (e ▸ hs)
/-- The reference's Reader at block g. -/
def RefR (w:World) (g:Nat) (l:List UInt8) (bad:Bool) (F:Nat → Prop):Prop :=
 ∃ A c,Blk w g 85 #[.slice A l.length c,.bool bad] ∧ l.length ≤ c ∧ 0 ≤ c ∧ Rd w A (l.map u8) ∧ Ofl A (l.map u8) (At g) ∧ (bad = true → l = []) ∧ (∀ k,k = g ∨ (l ≠ [] ∧ blk A k) → F k) ∧ (∀ k,F k → k < w.heap.size)
theorem RefR.kp_ {S:Nat → Prop} {w w':World} {g:Nat} {l:List UInt8} {bad:Bool} {F:Nat → Prop} (h:RefR w g l bad F) (k:Kp S w w') (hd:∀ i,F i → ¬ S i):RefR w' g l bad F:=by
 obtain ⟨A,c,hb,h1,h2,hr,hg,h3,hF,hFl⟩:=h
 exact ⟨A,c,hb.kp k (hd _ (hF _ (.inl rfl))),h1,h2,hr.kp k (fun a ha hx hs => hd _ (hF _ (.inr ⟨fun e => hx (by simp [e]),by rw [ha]; rfl⟩)) hs),hg,h3,hF,fun i hi => Nat.lt_of_lt_of_le (hFl i hi) k.size⟩
theorem RefR.new {w:World} {X:Option Addr} {l:List UInt8} {x:Nat} (hr:Rd w X (l.map u8)) (hx:l.length ≤ x):RefR (w.alloc (.cells #[.slice X l.length x,.bool false] 85)) w.heap.size l false (fun k => k = w.heap.size ∨ (l ≠ [] ∧ blk X k)):=by
 have ka:Nw w (w.alloc (.cells #[.slice X l.length x,.bool false] 85)):=(Kp.refl _ _).alloc _
 have ho:=hr.ofl (S:=fun k => w.heap.size ≤ k) fun _ h => h
 refine ⟨X,x,Blk.new w _ _,hx,Nat.zero_le _,hr.nw ka,fun a ha hx (e:a.block = _) => ho a ha hx (by omega),by simp,fun k h => h,fun k hk => ?_⟩
 rcases hk with rfl | ⟨hne,hk⟩
 ·simp
 ·obtain ⟨a,ha,rfl⟩:=blk_of hk
  have:=ho a ha (by simpa using hne)
  have:=ka.size
  omega
theorem RefR.nw {w w':World} {g:Nat} {l:List UInt8} {bad:Bool} {F:Nat → Prop} (h:RefR w g l bad F) (k:Nw w w'):RefR w' g l bad F:=h.kp_ k fun _ _ h => h
theorem RefR.in_ {w:World} {g:Nat} {l:List UInt8} {bad:Bool} {F:Nat → Prop} (h:RefR w g l bad F):F g:=by
 obtain ⟨A,c,hb,h1,h2,hr,hg,h3,hF,hFl⟩:=h
 exact hF _ (.inl rfl)
theorem RefR.nil_ {w:World} {g:Nat} {l:List UInt8} {F:Nat → Prop} (h:RefR w g l true F):l = []:=by
 obtain ⟨A,c,hb,h1,h2,hr,hg,h3,hF,hFl⟩:=h
 exact h3 rfl
theorem RefR.lt_ {w:World} {g:Nat} {l:List UInt8} {bad:Bool} {F:Nat → Prop} (h:RefR w g l bad F):∀ k,F k → k < w.heap.size:=by
 obtain ⟨A,c,hb,h1,h2,hr,hg,h3,hF,hFl⟩:=h
 exact hFl
theorem ref_cut {w:World} {g c:Nat} {A:Option Addr} {l:List UInt8} {bad:Bool} {F:Nat → Prop} (hb:Blk w g 85 #[.slice A l.length c,.bool bad]) (hc:l.length ≤ c) (hcm:0 ≤ c)
  (hr:Rd w A (l.map u8)) (ho:Ofl A (l.map u8) (At g)) (hbad:bad = true → l = []) (hF:∀ k,k = g ∨ (l ≠ [] ∧ blk A k) → F k) (hFl:∀ k,F k → k < w.heap.size) (m:Nat) (hm:m ≤ l.length) :
  RefR (w.setCell ⟨g,0,none⟩ (.slice (cutA A c m) (l.length - m) (c - m))) g (l.drop m) bad F:=by
 have hs:Kp (At g) w (w.setCell ⟨g,0,none⟩ (.slice (cutA A c m) (l.length - m) (c - m))):=(Kp.refl _ _).setCell_at _ _
 refine ⟨cutA A c m,c - m,?_,by simp; omega,by omega,?_,by rw [List.map_drop]; exact ofl_cut ho c m,?_,?_,by simpa using hFl⟩
 ·simpa [cutA] using hb.set 0 _
 ·rw [List.map_drop]
  exact (hr.cut (by simpa using hc) m).kp hs (ofl_cut ho c m)
 ·intro h
  simp [hbad h]
 ·rintro k (rfl | ⟨hne,h⟩)
  ·exact hF _ (.inl rfl)
  ·exact hF _ (.inr ⟨fun e => hne (by simp [e]),blk_cut h⟩)
theorem refBad_spec (g:Nat) (l:List UInt8) (bad:Bool) (F:Nat → Prop) (w:World) (h:RefR w g l bad F) :
  Cal Tryz.prog 84 #[.pointer (some ⟨g,0,none⟩)] w fun v w' => v = .tuple #[] ∧ RefR w' g [] true F ∧ Kp (At g) w w':=by
 obtain ⟨A,c,hb,hc,hcm,hr,ho,hbad,hF,hFl⟩:=h
 have h0:=hb.cell 0
 have h1:=hb.cell 1
 have f0:=hb.frozen 0
 have f1:=hb.frozen 1
 refine enter Tryz.mixed Tryz.func84 rfl (by kernel_rfl) ?_
 simp -dsimp [go_sem,h0,h1,f0,f1]
 refine ⟨⟨none,0,?_,Nat.le_refl _,by simp,Rd.nil _ _,by simp [Ofl],by simp,?_⟩,?_⟩
 ·simpa using (hb.set 1 _).set 0 _
 ·constructor
  ·rintro k (rfl | h)
   ·exact hF _ (.inl rfl)
   ·exact absurd rfl h.1
  ·simpa using hFl
 ·exact ((Kp.refl _ w).setCell_at _ _).setCell_at _ _
theorem refWhole_spec (g:Nat) (l:List UInt8) (bad:Bool) (F:Nat → Prop) (w:World) (h:RefR w g l bad F) :
  Cal Tryz.prog 46 #[.pointer (some ⟨g,0,none⟩)] w fun v w' => v = .bool (!bad && l.isEmpty) ∧ w = w':=by
 obtain ⟨A,c,hb,_⟩:=id h
 have h0:=hb.cell 0
 have h1:=hb.cell 1
 refine enter Tryz.mixed Tryz.func46 rfl (by kernel_rfl) ?_
 cases bad with
 | true => simp -dsimp [go_sem,h0,h1]
 | false =>
  simp -dsimp [go_sem,h0,h1]
  cases l <;> simp
  omega
theorem refRaw_spec (g:Nat) (l:List UInt8) (bad:Bool) (F:Nat → Prop) (n:Int) (w:World) (h:RefR w g l bad F) (hl:l.length ≤ 140737488355328) :
  Cal Tryz.prog 83 #[.pointer (some ⟨g,0,none⟩),i64 n] w fun v w' => Bs w' v (rawL l bad n).1 w.heap.size ∧ RefR w' g (rawL l bad n).2.1 (rawL l bad n).2.2 F ∧ Kp (At g) w w':=by
 obtain ⟨A,c,hb,hc,hcm,hr,ho,hbad,hF,hFl⟩:=id h
 have h0:=hb.cell 0
 have h1':=hb.cell 1
 have f0:=hb.frozen 0
 by_cases h1:n < 0
 ·have e:rawL l bad n = ([],[],true):=if_neg (by omega)
  rw [e]
  refine enter Tryz.mixed Tryz.func83 rfl (by kernel_rfl) ?_
  simp -dsimp [go_sem,h1]
  refine call (refBad_spec g l bad F w h) ?_
  rintro v w' ⟨rfl,hR,hk⟩
  obtain ⟨A2,c2,hb2,_⟩:=id hR
  have e1:=hb2.cell 1
  simp -dsimp [go_sem,e1]
  exact ⟨⟨none,0,rfl,Ow.nil _ _ _,by simp⟩,hR,hk⟩
 ·by_cases h2:(l.length:Int) < n
  ·have e:rawL l bad n = ([],[],true):=if_neg (by omega)
   rw [e]
   refine enter Tryz.mixed Tryz.func83 rfl (by kernel_rfl) ?_
   simp -dsimp [go_sem,h1,h0,h2]
   refine call (refBad_spec g l bad F w h) ?_
   rintro v w' ⟨rfl,hR,hk⟩
   obtain ⟨A2,c2,hb2,_⟩:=id hR
   have e1:=hb2.cell 1
   simp -dsimp [go_sem,e1]
   exact ⟨⟨none,0,rfl,Ow.nil _ _ _,by simp⟩,hR,hk⟩
  ·obtain ⟨m,rfl⟩:∃ m:Nat,n = m:=⟨n.toNat,by omega⟩
   have hm:m ≤ l.length:=by omega
   have e:rawL l bad m = (l.take m,l.drop m,bad):=if_pos (by omega)
   rw [e]
   refine enter Tryz.mixed Tryz.func83 rfl (by kernel_rfl) ?_
   have hmc:m ≤ c:=by omega
   cases bad with
   | true =>
    have hnil:=hbad rfl
    subst hnil
    obtain rfl:m = 0:=by simpa using hm
    simp -dsimp [go_sem,h0,h1']
    exact ⟨⟨none,0,rfl,Ow.nil _ _ _,by simp⟩,h,Kp.refl _ _⟩
   | false =>
    have hr1:Rd w A ((l.take m).map u8):=by rw [List.map_take]; exact hr.take m
    have ka:Nw w (w.alloc (.cells #[] 5)):=(Kp.refl _ _).alloc _
    have h0a:=(hb.kp ka fun h => h).cell 0
    simp -dsimp [go_sem,h1,h0,h1',h2,hmc,sliced,h0a]
    refine bs_fresh (m:=l.take m) rfl (by simp [Nat.min_eq_left hm]) hr1 (by simp; omega) ?_
    intro v w' hB hk
    have hb':=hb.kp hk (fun h => h)
    have h0':=hb'.cell 0
    have f0':=hb'.frozen 0
    simp -dsimp [go_sem,h0',f0',hm,sliced]
    have hs:Kp (At g) w' (w'.setCell ⟨g,0,none⟩ (.slice (cutA A c m) (l.length - m) (c - m))):=(Kp.refl _ _).setCell_at _ _
    refine ⟨hB.kp hs fun i hi _ e => ?_,ref_cut hb' hc hcm (hr.nw hk) ho hbad hF (fun k h => Nat.lt_of_lt_of_le (hFl k h) hk.size) m hm,(hk.kp _).trans hs fun _ _ h => h⟩
    have h2:=hb.lt
    have e:i = g:=e
    omega
theorem or_joinU (k u x:Nat) (hk:k ≤ 9) (hu:u < 2 ^ (7 * k)) (hx:x * 2 ^ (7 * k) < 18446744073709551616):bits .or .u64 (u:Int) ((x * 2 ^ (7 * k):Nat):Int) = ((u + x * 2 ^ (7 * k):Nat):Int):=by
 have h1:2 ^ (7 * k) ≤ 2 ^ 63:=Nat.pow_le_pow_right (by omega) (by omega)
 rw [u64_or_nat u _ (by omega) (by omega),Nat.or_comm,nat_join (7 * k) _ _ (Nat.mul_mod_left _ _) hu,Nat.add_comm]
theorem shl_numU (c k:Nat) (hc:c < 256) (hk:k ≤ 9) (hb:c % 128 * 2 ^ (7 * k) < 18446744073709551616):Op.shift .shl .u64 (IntKind.u64.wrap (bits .and .u8 (c:Int) 127)) .u64 (IntKind.u64.wrap (IntKind.i64.wrap (7 * (k:Int)))) = pure (.int .u64 ((c % 128 * 2 ^ (7 * k):Nat):Int)):=by
 have e1:bits .and .u8 (c:Int) 127 = ((c % 128:Nat):Int):=by
  rw [show (127:Int) = ((127:Nat):Int) from rfl,u8_and_nat c 127 hc (by omega),nat_mask7]
 have e2:IntKind.u64.wrap ((c % 128:Nat):Int) = ((c % 128:Nat):Int):=by rw [IntKind.wrap_u64]; omega
 have e3:IntKind.i64.wrap (7 * (k:Int)) = ((7 * k:Nat):Int):=by rw [w64 (by omega) (by omega)]; omega
 have e4:IntKind.u64.wrap ((7 * k:Nat):Int) = ((7 * k:Nat):Int):=by rw [IntKind.wrap_u64]; omega
 rw [e1,e2,e3,e4,shift_shl .u64 .u64 _ _ (by omega) (by simp [IntKind.bits]; omega),Int.toNat_natCast]
 congr 2
 rw [show ((c % 128:Nat):Int) * 2 ^ (7 * k) = ((c % 128 * 2 ^ (7 * k):Nat):Int) by simp,IntKind.wrap_u64]
 omega
theorem numL_none {l:List UInt8} {bad:Bool} (h:takeN 0 0 l = none):numL l bad = (0,[],true):=by simp [numL,h]
theorem refNumT_spec (h:Nat) (l:List UInt8) (bad:Bool) (G:Nat → Prop) (w:World) (hR:RefR w h l bad G) (hl:l.length ≤ 140737488355328) :
  Cal Tryz.prog 44 #[.pointer (some ⟨h,0,none⟩)] w fun v w' => v = i64 (numL l bad).1 ∧ RefR w' h (numL l bad).2.1 (numL l bad).2.2 G ∧ Kp (At h) w w':=by
 refine enter Tryz.mixed Tryz.func44 rfl (by kernel_rfl) ?_
 simp -dsimp [go_sem]
 refine loopx 0 [2,3,4,5,6,7,8,9,10,11,12,13,14,15,16,17,18,19,20,21,22,23,24,25,26,27,28,29,30,31,32,33,34,35,36,37,38,39,40,41,42,43,44,45,46,47,48,49,50,51,52,53,54] (by kernel_rfl)
  (fun f w' => Box2 (fun a b w' => ∃ (k u:Nat) (l1:List UInt8),k ≤ 9 ∧ a = i64 k ∧ b = .int .u64 u ∧ u < 2 ^ (7 * k) ∧ l1.length ≤ l.length ∧ takeN k u l1 = takeN 0 0 l ∧ (l1 ≠ [] → bad = false) ∧ RefR w' h l1 bad G ∧ Kp (At h) w w') (f 4) (f 3) w') (fun f _ => 9 - (intOf (f 4)).toNat)
  (fun _ w' => Box (∃ l1 b1,RefR w' h l1 b1 G ∧ Kp (At h) w w' ∧ numL l bad = (0,[],true))) ⟨0,0,l,by omega,rfl,rfl,by simp,Nat.le_refl _,rfl,fun hn => by
   cases bad with
   | false => rfl
   | true => exact absurd hR.nil_ hn,hR,Kp.refl _ _⟩ ?_ ?_
 ·rintro f w' ⟨k,u,l1,hk,f4,f3,hu,hl1,ht,hnb,hR1,hK⟩
  have hk10:(k:Int) < 10:=by omega
  simp -dsimp [go_sem,f4,f3,hk10]
  refine call (refRaw_spec h l1 bad G 1 w' hR1 (by omega)) ?_
  cases l1 with
  | nil =>
   rw [show rawL [] bad 1 = ([],[],true) from rfl]
   rintro v w2 ⟨hB,hR2,hk2⟩
   obtain ⟨A2,c2,hb2,_⟩:=id hR2
   have e1:=hb2.cell 1
   have e:=numL_none (bad:=bad) (ht.symm.trans rfl)
   simp -dsimp [go_sem,e1]
   rw [e]
   exact ⟨rfl,hR2,hK.trans hk2 fun _ _ h => h⟩
  | cons c r =>
   have hbad:=hnb (by simp)
   rw [show rawL (c :: r) bad 1 = ([c],r,bad) by simp [rawL]; omega]
   rintro v w2 ⟨⟨A,cc,rfl,hoB,hA⟩,hR2,hk2⟩
   obtain ⟨A2,c2,hb2,_⟩:=id hR2
   have e1:=hb2.cell 1
   obtain ⟨b0,o0,rfl,hc0⟩:=hoB.rd 0 (u8 c) rfl
   rw [Nat.add_zero] at hc0
   have hK2:Kp (At h) w w2:=hK.trans hk2 fun _ _ h => h
   rw [hbad] at e1
   have hc256:=UInt8.toNat_lt c
   have hrl:r.length ≤ l.length:=by simp at hl1; omega
   obtain ⟨n,hn⟩:∃ n,n = c.toNat:=⟨_,rfl⟩
   have htk:takeN k u (c :: r) = if 9 ≤ k ∨ 0 < k ∧ n = 0 then none else if n < 128 then (if 4611686018427387904 < u + n % 128 * 2 ^ (7 * k) then none else some (u + n % 128 * 2 ^ (7 * k),r)) else takeN (k + 1) (u + n % 128 * 2 ^ (7 * k)) r:=by rw [hn]; rfl
   have hcn:w2.cell? ⟨b0,o0,none⟩ = some (.int .u8 (n:Int)):=by rw [hc0,hn]
   have hn256:n < 256:=by omega
   by_cases k9:k = 9
   ·have k9':((k:Int) == 9) = true:=by simp; omega
    have hp9:2 ^ (7 * k) = 9223372036854775808:=by rw [k9]
    have hkp:0 < k:=by omega
    have hout:numL l bad = (0,[],true):=numL_none (ht.symm.trans (by rw [htk,if_pos (by omega)]))
    by_cases h127:127 < n
    ·have h127':(127:Int) < (n:Int):=by omega
     simp -dsimp [go_sem,f4,f3,e1,hcn,k9',hkp,h127']
     exact ⟨_,_,hR2,hK2,hout⟩
    ·have h127':¬ (127:Int) < (n:Int):=by omega
     by_cases h1:1 < n
     ·have h1':(1:Int) < (n:Int):=by omega
      simp -dsimp [go_sem,f4,f3,e1,hcn,k9',hkp,h127',h1']
      exact ⟨_,_,hR2,hK2,hout⟩
     ·have h1':¬ (1:Int) < (n:Int):=by omega
      have hx:n % 128 * 2 ^ (7 * k) < 18446744073709551616:=by
       rw [hp9]; omega
      have hsh:=shl_numU n k hn256 (by omega) hx
      have hor:=or_joinU k u (n % 128) (by omega) hu hx
      obtain ⟨x,hxd⟩:∃ x,x = n % 128 * 2 ^ (7 * k):=⟨_,rfl⟩
      have hx9:x = n % 128 * 9223372036854775808:=by rw [hxd,hp9]
      rw [← hxd] at hsh hor
      obtain ⟨y,hy⟩:∃ y,y = u + x:=⟨_,rfl⟩
      rw [← hy] at hor
      by_cases h0:n = 0
      ·have h0':((n:Int) == 0) = true:=by simp; omega
       simp -dsimp [go_sem,f4,f3,e1,hcn,k9',hkp,h127',h1',hsh,hor,h0']
       exact ⟨_,_,hR2,hK2,hout⟩
      ·have h0':((n:Int) == 0) = false:=by simp; omega
       have hbig:(4611686018427387904:Int) < (y:Int):=by
        obtain rfl:n = 1:=by omega
        omega
       simp -dsimp [go_sem,f4,f3,e1,hcn,k9',hkp,h127',h1',hsh,hor,h0',hbig]
       exact ⟨_,_,hR2,hK2,hout⟩
   ·have hk8:k ≤ 8:=by omega
    have k9':((k:Int) == 9) = false:=by simp; omega
    have hp:=Nat.pow_le_pow_right (show 0 < 2 by omega) (show 7 * k ≤ 56 by omega)
    have hx0:n % 128 * 2 ^ (7 * k) ≤ 127 * 2 ^ (7 * k):=Nat.mul_le_mul_right _ (by omega)
    have hx:n % 128 * 2 ^ (7 * k) < 18446744073709551616:=by omega
    have hsh:=shl_numU n k hn256 (by omega) hx
    have hor:=or_joinU k u (n % 128) (by omega) hu hx
    have hy2:u + n % 128 * 2 ^ (7 * k) < 2 ^ (7 * (k + 1)):=by
     have h2:2 ^ (7 * (k + 1)) = 128 * 2 ^ (7 * k):=by rw [show 7 * (k + 1) = 7 + 7 * k by omega,Nat.pow_add]
     omega
    obtain ⟨x,hxd⟩:∃ x,x = n % 128 * 2 ^ (7 * k):=⟨_,rfl⟩
    rw [← hxd] at hsh hor hy2 htk
    obtain ⟨y,hy⟩:∃ y,y = u + x:=⟨_,rfl⟩
    rw [← hy] at hor hy2 htk
    have hy3:y < 9223372036854775808:=Nat.lt_of_lt_of_le hy2 (Nat.pow_le_pow_right (by omega) (by omega:7 * (k + 1) ≤ 63))
    have hk1:IntKind.i64.wrap ((k:Int) + 1) = ((k + 1:Nat):Int):=w64 (by omega) (by omega)
    by_cases h127:127 < n
    ·have h127':(127:Int) < (n:Int):=by omega
     by_cases hz:0 < k ∧ n = 0
     ·omega
     rw [if_neg (by omega),if_neg (by omega)] at htk
     obtain ⟨k1,hk1'⟩:∃ k1,k1 = k + 1:=⟨_,rfl⟩
     rw [← hk1'] at hk1 hy2 htk
     simp -dsimp [go_sem,f4,f3,e1,hcn,k9',h127',hsh,hor,hk1]
     refine ⟨⟨k1,y,r,by omega,rfl,rfl,hy2,hrl,htk.symm.trans ht,fun _ => hbad,hR2,hK2⟩,by simp [intOf]; omega⟩
    ·have h127':¬ (127:Int) < (n:Int):=by omega
     by_cases hz:0 < k ∧ n = 0
     ·have hout:numL l bad = (0,[],true):=numL_none (ht.symm.trans (by rw [htk,if_pos (.inr hz)]))
      have hz1:0 < k:=hz.1
      have hz2:((n:Int) == 0) = true:=by simp; omega
      simp -dsimp [go_sem,f4,f3,e1,hcn,k9',h127',hsh,hor,hz1,hz2]
      exact ⟨_,_,hR2,hK2,hout⟩
     ·rw [if_neg (by omega),if_pos (by omega)] at htk
      by_cases hbig:4611686018427387904 < y
      ·have hbig':(4611686018427387904:Int) < (y:Int):=by omega
       rw [if_pos hbig] at htk
       have hout:numL l bad = (0,[],true):=numL_none (ht.symm.trans htk)
       by_cases hk0:0 < k
       ·have hz2:((n:Int) == 0) = false:=by simp; omega
        simp -dsimp [go_sem,f4,f3,e1,hcn,k9',h127',hsh,hor,hk0,hz2,hbig']
        exact ⟨_,_,hR2,hK2,hout⟩
       ·simp -dsimp [go_sem,f4,f3,e1,hcn,k9',h127',hsh,hor,hk0,hbig']
        exact ⟨_,_,hR2,hK2,hout⟩
      ·have hbig':¬ (4611686018427387904:Int) < (y:Int):=by omega
       rw [if_neg hbig] at htk
       have hres:numL l bad = (y,r,bad):=by simp [numL,← ht,htk]
       have hy4:IntKind.i64.wrap (y:Int) = y:=w64 (by omega) (by omega)
       rw [hres]
       by_cases hk0:0 < k
       ·have hz2:((n:Int) == 0) = false:=by simp; omega
        simp -dsimp [go_sem,f4,f3,e1,hcn,k9',h127',hsh,hor,hk0,hz2,hbig',hy4]
        exact ⟨hR2,hK2⟩
       ·simp -dsimp [go_sem,f4,f3,e1,hcn,k9',h127',hsh,hor,hk0,hbig',hy4]
        exact ⟨hR2,hK2⟩
 ·rintro f w' ⟨l1,b1,hR1,hK,e⟩
  simp -dsimp [go_sem]
  refine call (refBad_spec h l1 b1 G w' hR1) ?_
  rintro v w2 ⟨rfl,hR2,hk2⟩
  simp -dsimp [go_sem]
  rw [e]
  exact ⟨rfl,hR2,hK.trans hk2 fun _ _ h => h⟩
theorem numL_bad {l:List UInt8} {bad:Bool} (h:bad = true → l = []) (hb:(numL l bad).2.2 = true):numL l bad = (0,[],true):=by
 cases hl:takeN 0 0 l with
 | none => exact numL_none hl
 | some p =>
  obtain ⟨u,r⟩:=p
  simp only [numL,hl] at hb
  rw [h hb] at hl
  cases hl
theorem refBytesT_spec (h:Nat) (l:List UInt8) (bad:Bool) (G:Nat → Prop) (w:World) (hR:RefR w h l bad G) (hl:l.length ≤ 140737488355328) :
  Cal Tryz.prog 45 #[.pointer (some ⟨h,0,none⟩)] w fun v w' => Bs w' v (bytL l bad).1 w.heap.size ∧ RefR w' h (bytL l bad).2.1 (bytL l bad).2.2 G ∧ Kp (At h) w w':=by
 refine enter Tryz.mixed Tryz.func45 rfl (by kernel_rfl) ?_
 simp -dsimp [go_sem]
 refine call (refNumT_spec h l bad G w hR hl) ?_
 rintro v w1 ⟨rfl,hR1,hk1⟩
 have hlen:=numL_len l bad
 have hb0:bad = true → l = []:=fun e => by subst e; exact hR.nil_
 have hbt:bytL l bad = rawL (numL l bad).2.1 (numL l bad).2.2 (numL l bad).1:=rfl
 have hnb:=numL_bad hb0
 rw [hbt]
 obtain ⟨N,hN⟩:∃ N,N = numL l bad:=⟨_,rfl⟩
 rw [← hN] at hR1 hlen hnb ⊢
 obtain ⟨n,l1,b1⟩:=N
 obtain ⟨A2,c2,hb2,_⟩:=id hR1
 have e1:=hb2.cell 1
 simp only at hR1 hlen e1 hnb ⊢
 cases b1 with
 | true =>
  have:=hnb rfl
  simp only [Prod.mk.injEq] at this
  obtain ⟨rfl,rfl,_⟩:=this
  simp -dsimp [go_sem,e1]
  exact ⟨⟨none,0,rfl,Ow.nil _ _ _,by simp⟩,hR1,hk1⟩
 | false =>
  simp -dsimp [go_sem,e1]
  refine call (refRaw_spec h l1 false G n w1 hR1 (by omega)) ?_
  rintro v w2 ⟨hB,hR2,hk2⟩
  simp -dsimp [go_sem]
  exact ⟨hB.mono hk1.size,hR2,hk1.trans hk2 fun _ _ h => h⟩
theorem zeroBox {w:World}:(zeroValue 111).run Tryz.prog w = .ok (.agg #[.string ⟨#[]⟩,i64 0,i64 0,.slice none 0 0]) w:=rfl
theorem creates_spec {t r:Nat} {T:Stt} {F V:Nat → Prop} {ptr rb:Nm → Nat} {vb:Nm → Nm → Value} {Fs:Nm → Nat → Prop} {u:Usr} (c:Chg) (v:Value) (w:World) (h:SttM w t T F V r ptr rb vb Fs) (ok:T.Ok) (hVl:∀ i,V i → i < w.heap.size) (hu:tLook T.us c.user = some u) (hc:RC w v c V) :
  Cal Tryz.prog 88 #[.pointer (some ⟨t,0,none⟩),v,.pointer (some ⟨ptr c.user,0,none⟩)] w fun v w' => PlanR w' v t (plCreate T c u) F V ∧ Nw w w':=by
 obtain ⟨A,ca,B,cb,rfl,hca,hcb,hrA,hoA,hrB,hoB⟩:=hc
 have hUO:=(ok.us _ _ hu).2
 refine enter Tryz.mixed Tryz.func88 rfl (by kernel_rfl) ?_
 simp -dsimp [go_sem]
 obtain ⟨q,y,x,z,hq',hy',hx',hz',hq,hy,hx,hz,hsz,n0⟩:=four_new w 95 25 116 100 #[.pointer (some ⟨t,0,none⟩)] (chV c A ca B cb) #[.pointer (some ⟨ptr c.user,0,none⟩)] #[.nilFunc,i64 0,i64 0]
 rw [← hq',← hy',← hx',← hz']
 generalize (((w.alloc (.cells #[.pointer (some ⟨t,0,none⟩)] 95)).alloc (.cells (chV c A ca B cb) 25)).alloc (.cells #[.pointer (some ⟨ptr c.user,0,none⟩)] 116)).alloc (.cells #[.nilFunc,i64 0,i64 0] 100) = wa at *
 have hM:=h.nw n0
 obtain ⟨hU,h2,h3,h4⟩:=hM.us _ _ hu
 have q0:=hq.cell 0
 have x0:=hx.cell 0
 have y3:=hy.cell 3
 have p1:=hU.blk.cell 1
 have t0:=hM.blk.cell 0
 have hlz:∀ wz,Nw wa wz → (Instr.lookup 156 (.map (some (rb c.user))) (str c.box) true).run Tryz.prog wz = .ok (.tuple #[(Mb (vb c.user) u.bx c.box).getD (.agg #[.string ⟨#[]⟩,i64 0,i64 0,.slice none 0 0]),.bool (Mb (vb c.user) u.bx c.box).isSome]) wz:=fun wz hk => lookup_mp KL hmb zeroBox (hU.mp.kp hk fun h => h) c.box true
 have kdr:Nw wa wa.drew:=(Kp.refl _ _).drew
 have hlk:=hlz wa.drew kdr
 refine draw (.take 0 (.take 1 (.take 2 (.take 3 (.take 4 (.take 5 (.take 6 (.take 7 (.take 8 (.take 9 (.alt 10 (.alt 11 (.take 12 .done) .stop) .stop)))))))))))  (by kernel_rfl) (fun wz => Nw wa wz) kdr ?_
 cases hb:tLook u.bx c.box with
 | some b =>
  have hpl:plCreate T c u = (8,0,T):=by unfold plCreate; rw [hb]; rfl
  obtain ⟨X,xc,hv⟩:=(hU.bx _ _ hb).open_
  rw [show Mb (vb c.user) u.bx c.box = some (.agg #[.string b.name,i64 b.val,i64 b.next,.slice X b.L.length xc]) by simp [Mb,hb,hv]] at hlz hlk
  have kf:∀ cs,Nw wa (wa.alloc (.cells cs 111)).drew:=fun cs => ((Kp.refl _ wa).alloc _).drew
  simp -dsimp [go_sem,q0,x0,y3,p1,hlk]
  refine ⟨fun wz hz => by simp [hz.cell_some x0 fun h => h],fun wz hz => by simp [hz.cell_some p1 fun h => h],fun wz hz => by simp [hz.cell_some y3 fun h => h],fun wz hk => by simp [hlz wz hk],kf _,kf _,?_⟩
  refine call (refused_spec 8 _) ?_
  rintro v w1 ⟨rfl,k1⟩
  have n1:=Kp.nw (n0.nw (kf _)) k1
  have hz1:=Blk.nw (hz.nw (kf _)) k1
  have z0c:=hz1.cell 0
  have z1c:=hz1.cell 1
  have z2c:=hz1.cell 2
  have z0f:=hz1.frozen 0
  have z1f:=hz1.frozen 1
  have z2f:=hz1.frozen 2
  simp -dsimp [go_sem,z0c,z1c,z2c,z0f,z1f,z2f]
  rw [hpl]
  exact ⟨.inl ⟨by simp,rfl⟩,n1.at_ (set3 w1 z _ _ _) fun k (e:k = z) => by omega⟩
 | none =>
  rw [show Mb (vb c.user) u.bx c.box = none by simp [Mb,hb]] at hlz hlk
  have kf:∀ cs,Nw wa (wa.alloc (.cells cs 111)).drew:=fun cs => ((Kp.refl _ wa).alloc _).drew
  have hlen:∀ cs,(Builtin.len_ #[156] 3 #[.map (some (rb c.user))]).run Tryz.prog (wa.alloc (.cells cs 111)).drew = .ok (i64 u.bx.length) (wa.alloc (.cells cs 111)).drew:=fun cs => by
   have:=len_mp (ty:=3) KL hmb (hU.mp.kp (kf cs) fun h => h) (keys_nodup hUO.srt) (Mb_some (vb c.user) u.bx)
   rwa [show (keysA u.bx).length = u.bx.length by simp [keysA]] at this
  have hpl:plCreate T c u = if 4 ≤ u.bx.length then (6,0,T) else if 1048576 ≤ T.next then (10,0,T) else (0,0,{ T.turn c.user u (tLay u.bx c.box (newB c.box T.next)) with next:=T.next + 1 }):=by unfold plCreate; rw [hb]; rfl
  have c1:=fun cs => (kf cs).cell_some x0 fun h => h
  have c2:=fun cs => (kf cs).cell_some p1 fun h => h
  have c3:=fun cs => (kf cs).cell_some q0 fun h => h
  have c4:=fun cs => (kf cs).cell_some t0 fun h => h
  by_cases h4:4 ≤ u.bx.length
  ·have h4':(4:Int) ≤ (u.bx.length:Int):=by omega
   rw [if_pos h4] at hpl
   simp -dsimp [go_sem,q0,x0,y3,p1,hlk,hlen,c1,c2,h4,h4']
   refine ⟨fun wz hz => by simp [hz.cell_some x0 fun h => h],fun wz hz => by simp [hz.cell_some p1 fun h => h],fun wz hz => by simp [hz.cell_some y3 fun h => h],fun wz hk => by simp [hlz wz hk],kf _,?_⟩
   refine call (refused_spec 6 _) ?_
   rintro v w1 ⟨rfl,k1⟩
   have n1:=Kp.nw (n0.nw (kf _)) k1
   have hz1:=Blk.nw (hz.nw (kf _)) k1
   have z0c:=hz1.cell 0
   have z1c:=hz1.cell 1
   have z2c:=hz1.cell 2
   have z0f:=hz1.frozen 0
   have z1f:=hz1.frozen 1
   have z2f:=hz1.frozen 2
   simp -dsimp [go_sem,z0c,z1c,z2c,z0f,z1f,z2f]
   rw [hpl]
   exact ⟨.inl ⟨by simp,rfl⟩,n1.at_ (set3 w1 z _ _ _) fun k (e:k = z) => by omega⟩
  ·have h4':¬ (4:Int) ≤ (u.bx.length:Int):=by omega
   rw [if_neg h4] at hpl
   by_cases hn:1048576 ≤ T.next
   ·rw [if_pos hn] at hpl
    simp -dsimp [go_sem,q0,x0,y3,p1,hlk,hlen,c1,c2,c3,c4,h4,h4',hn]
    refine ⟨fun wz hz => by simp [hz.cell_some x0 fun h => h],fun wz hz => by simp [hz.cell_some p1 fun h => h],fun wz hz => by simp [hz.cell_some y3 fun h => h],fun wz hk => by simp [hlz wz hk],kf _,?_⟩
    refine call (refused_spec 10 _) ?_
    rintro v w1 ⟨rfl,k1⟩
    have n1:=Kp.nw (n0.nw (kf _)) k1
    have hz1:=Blk.nw (hz.nw (kf _)) k1
    have z0c:=hz1.cell 0
    have z1c:=hz1.cell 1
    have z2c:=hz1.cell 2
    have z0f:=hz1.frozen 0
    have z1f:=hz1.frozen 1
    have z2f:=hz1.frozen 2
    simp -dsimp [go_sem,z0c,z1c,z2c,z0f,z1f,z2f]
    rw [hpl]
    exact ⟨.inl ⟨by simp,rfl⟩,n1.at_ (set3 w1 z _ _ _) fun k (e:k = z) => by omega⟩
   ·rw [if_neg hn] at hpl
    simp -dsimp [go_sem,q0,x0,y3,p1,hlk,hlen,c1,c2,c3,c4,h4,h4',hn]
    refine ⟨fun wz hz => by simp [hz.cell_some x0 fun h => h],fun wz hz => by simp [hz.cell_some p1 fun h => h],fun wz hz => by simp [hz.cell_some y3 fun h => h],fun wz hk => by simp [hlz wz hk],kf _,?_⟩
    have ka:∀ cs,Nw wa (wa.alloc (.cells cs 111)):=fun cs => (Kp.refl _ wa).alloc _
    have z0c:=fun cs => (hz.nw (ka cs)).cell 0
    have z1c:=fun cs => (hz.nw (ka cs)).cell 1
    have z2c:=fun cs => (hz.nw (ka cs)).cell 2
    have z0f:=fun cs => (hz.nw (ka cs)).frozen 0
    have z1f:=fun cs => (hz.nw (ka cs)).frozen 1
    have z2f:=fun cs => (hz.nw (ka cs)).frozen 2
    simp [go_sem,z0c,z1c,z2c,z0f,z1f,z2f]
    have n1:Nw w (wa.alloc (.cells #[.string ⟨#[]⟩,i64 0,i64 0,.slice none 0 0] 111)):=n0.nw (ka _)
    have hqa:=hq.nw (ka #[.string ⟨#[]⟩,i64 0,i64 0,.slice none 0 0])
    have hya:=hy.nw (ka #[.string ⟨#[]⟩,i64 0,i64 0,.slice none 0 0])
    have hxa:=hx.nw (ka #[.string ⟨#[]⟩,i64 0,i64 0,.slice none 0 0])
    generalize wa.alloc (.cells #[.string ⟨#[]⟩,i64 0,i64 0,.slice none 0 0] 111) = wb at *
    have nf:=fun a b c => (n1.at_ (set3 wb z a b c) fun k (e:k = z) => by omega).drew
    rw [hpl]
    have kz:=fun a b c => (set3 wb z a b c).drew
    exact ⟨.inr ⟨rfl,_,rfl,creates_does (h.nw (nf _ _ _)) ok hVl (nf _ _ _).size hu (hya.kp (kz _ _ _) fun (e:y = z) => by omega) (hxa.kp (kz _ _ _) fun (e:x = z) => by omega) (hqa.kp (kz _ _ _) fun (e:q = z) => by omega) (by omega) (by omega) (by omega)⟩,nf _ _ _⟩
theorem beq_in (a:Nm):(a == [105,110,98,111,120]) = decide (a = inboxN):=by rw [Bool.eq_iff_iff,decide_eq_true_iff,beq_iff_eq]; rfl
theorem renames_spec {t r:Nat} {T:Stt} {F V:Nat → Prop} {ptr rb:Nm → Nat} {vb:Nm → Nm → Value} {Fs:Nm → Nat → Prop} {u:Usr} {b:Bx} (c:Chg) (v bv:Value) (w:World) (h:SttM w t T F V r ptr rb vb Fs) (ok:T.Ok) (hVl:∀ i,V i → i < w.heap.size) (hu:tLook T.us c.user = some u) (hc:RC w v c V) (hbv:RB w bv b V) :
  Cal Tryz.prog 90 #[v,.pointer (some ⟨ptr c.user,0,none⟩),bv] w fun v w' => PlanR w' v t (plRename T c u b) F V ∧ Nw w w':=by
 have hRB:=hbv
 obtain ⟨A,ca,B,cb,rfl,hca,hcb,hrA,hoA,hrB,hoB⟩:=hc
 obtain ⟨Z,zc,q1,rfl,hq1,hc1,hr1,ho1,hbd1⟩:=hbv
 have hUO:=(ok.us _ _ hu).2
 refine enter Tryz.mixed Tryz.func90 rfl (by kernel_rfl) ?_
 simp -dsimp [go_sem]
 obtain ⟨y,x,q,z,hy',hx',hq',hz',hy,hx,hq,hz,hsz,n0⟩:=four_new w 25 116 111 100 (chV c A ca B cb) #[.pointer (some ⟨ptr c.user,0,none⟩)] #[.string b.name,i64 b.val,i64 b.next,.slice Z b.L.length zc] #[.nilFunc,i64 0,i64 0]
 rw [← hy',← hx',← hq',← hz']
 generalize (((w.alloc (.cells (chV c A ca B cb) 25)).alloc (.cells #[.pointer (some ⟨ptr c.user,0,none⟩)] 116)).alloc (.cells #[.string b.name,i64 b.val,i64 b.next,.slice Z b.L.length zc] 111)).alloc (.cells #[.nilFunc,i64 0,i64 0] 100) = wa at *
 have hM:=h.nw n0
 obtain ⟨hU,h2,h3,h4⟩:=hM.us _ _ hu
 have x0:=hx.cell 0
 have y3:=hy.cell 3
 have y4:=hy.cell 4
 have p1:=hU.blk.cell 1
 have hie:(c.box == [105,110,98,111,120]) = decide (c.box = inboxN):=beq_in c.box
 by_cases hin:c.box = inboxN
 ·have hpl:plRename T c u b = (11,0,T):=by unfold plRename; rw [if_pos hin]
  rw [decide_eq_true hin] at hie
  simp -dsimp [go_sem,y3,hie]
  refine call (refused_spec 11 _) ?_
  rintro v w1 ⟨rfl,k1⟩
  have n1:=Kp.nw n0 k1
  have hz1:=Blk.nw hz k1
  have z0c:=hz1.cell 0
  have z1c:=hz1.cell 1
  have z2c:=hz1.cell 2
  have z0f:=hz1.frozen 0
  have z1f:=hz1.frozen 1
  have z2f:=hz1.frozen 2
  simp -dsimp [go_sem,z0c,z1c,z2c,z0f,z1f,z2f]
  rw [hpl]
  exact ⟨.inl ⟨by simp,rfl⟩,n1.at_ (set3 w1 z _ _ _) fun k (e:k = z) => by omega⟩
 ·rw [decide_eq_false hin] at hie
  simp -dsimp [go_sem,y3,hie]
  have hlz:∀ wz,Nw wa wz → (Instr.lookup 156 (.map (some (rb c.user))) (str c.to) true).run Tryz.prog wz = .ok (.tuple #[(Mb (vb c.user) u.bx c.to).getD (.agg #[.string ⟨#[]⟩,i64 0,i64 0,.slice none 0 0]),.bool (Mb (vb c.user) u.bx c.to).isSome]) wz:=fun wz hk => lookup_mp KL hmb zeroBox (hU.mp.kp hk fun h => h) c.to true
  have kdr:Nw wa wa.drew:=(Kp.refl _ _).drew
  have hlk:=hlz wa.drew kdr
  refine draw (.take 0 (.take 1 (.take 2 (.take 3 (.take 4 (.take 5 (.take 6 (.take 7 (.take 8 (.take 9 (.alt 10 (.alt 11 (.take 12 .done) .stop) .stop)))))))))))  (by kernel_rfl) (fun wz => Nw wa wz) kdr ?_
  have kf:∀ cs,Nw wa (wa.alloc (.cells cs 111)).drew:=fun cs => ((Kp.refl _ wa).alloc _).drew
  cases hb:tLook u.bx c.to with
  | some d =>
   have hpl:plRename T c u b = (8,0,T):=by unfold plRename; rw [if_neg hin,hb]; rfl
   obtain ⟨X,xc,hv⟩:=(hU.bx _ _ hb).open_
   rw [show Mb (vb c.user) u.bx c.to = some (.agg #[.string d.name,i64 d.val,i64 d.next,.slice X d.L.length xc]) by simp [Mb,hb,hv]] at hlz hlk
   simp -dsimp [go_sem,x0,y4,p1,hlk]
   refine ⟨fun wz hz => by simp [hz.cell_some x0 fun h => h],fun wz hz => by simp [hz.cell_some p1 fun h => h],fun wz hz => by simp [hz.cell_some y4 fun h => h],fun wz hk => by simp [hlz wz hk],kf _,kf _,?_⟩
   refine call (refused_spec 8 _) ?_
   rintro v w1 ⟨rfl,k1⟩
   have n1:=Kp.nw (n0.nw (kf _)) k1
   have hz1:=Blk.nw (hz.nw (kf _)) k1
   have z0c:=hz1.cell 0
   have z1c:=hz1.cell 1
   have z2c:=hz1.cell 2
   have z0f:=hz1.frozen 0
   have z1f:=hz1.frozen 1
   have z2f:=hz1.frozen 2
   simp -dsimp [go_sem,z0c,z1c,z2c,z0f,z1f,z2f]
   rw [hpl]
   exact ⟨.inl ⟨by simp,rfl⟩,n1.at_ (set3 w1 z _ _ _) fun k (e:k = z) => by omega⟩
  | none =>
   have hpl:plRename T c u b = (0,0,T.turn c.user u (tLay (tGone u.bx c.box) c.to { b with name:=⟨c.to.toArray⟩ })):=by unfold plRename; rw [if_neg hin,hb]; rfl
   rw [show Mb (vb c.user) u.bx c.to = none by simp [Mb,hb]] at hlz hlk
   have ka:∀ cs,Nw wa (wa.alloc (.cells cs 111)):=fun cs => (Kp.refl _ wa).alloc _
   have c4:=fun cs => (kf cs).cell_some y4 fun h => h
   have q0:=fun cs => (hq.nw (ka cs)).cell 0
   have qf:=fun cs => (hq.nw (ka cs)).frozen 0
   simp -dsimp [go_sem,x0,y4,p1,hlk,c4,q0,qf]
   refine ⟨fun wz hz => by simp [hz.cell_some x0 fun h => h],fun wz hz => by simp [hz.cell_some p1 fun h => h],fun wz hz => by simp [hz.cell_some y4 fun h => h],fun wz hk => by simp [hlz wz hk],kf _,?_⟩
   have z0c:=fun cs => (hz.nw (ka cs)).cell 0
   have z1c:=fun cs => (hz.nw (ka cs)).cell 1
   have z2c:=fun cs => (hz.nw (ka cs)).cell 2
   have z0f:=fun cs => (hz.nw (ka cs)).frozen 0
   have z1f:=fun cs => (hz.nw (ka cs)).frozen 1
   have z2f:=fun cs => (hz.nw (ka cs)).frozen 2
   simp [go_sem,z0c,z1c,z2c,z0f,z1f,z2f]
   have n1:Nw w (wa.alloc (.cells #[.string ⟨#[]⟩,i64 0,i64 0,.slice none 0 0] 111)):=n0.nw (ka _)
   have hqa:=hq.nw (ka #[.string ⟨#[]⟩,i64 0,i64 0,.slice none 0 0])
   have hya:=hy.nw (ka #[.string ⟨#[]⟩,i64 0,i64 0,.slice none 0 0])
   have hxa:=hx.nw (ka #[.string ⟨#[]⟩,i64 0,i64 0,.slice none 0 0])
   generalize wa.alloc (.cells #[.string ⟨#[]⟩,i64 0,i64 0,.slice none 0 0] 111) = wb at *
   have kq:Kp (At q) wb (wb.setCell ⟨q,0,none⟩ (str c.to)):=(Kp.refl _ _).setCell_at _ _
   have hqb:Blk (wb.setCell ⟨q,0,none⟩ (str c.to)) q 111 #[str c.to,i64 b.val,i64 b.next,.slice Z b.L.length zc]:=by simpa using hqa.set 0 (str c.to)
   have hyb:=hya.kp kq fun (e:y = q) => by omega
   have hxb:=hxa.kp kq fun (e:x = q) => by omega
   have n2:=n1.at_ kq fun k (e:k = q) => by omega
   generalize wb.setCell ⟨q,0,none⟩ (str c.to) = wc at *
   have nf:=fun a b c => (n2.at_ (set3 wc z a b c) fun k (e:k = z) => by omega).drew
   rw [hpl]
   have kz:=fun a b c => (set3 wc z a b c).drew
   have hRB2:∀ w',Nw w w' → RB w' (.agg #[str c.to,i64 b.val,i64 b.next,.slice Z b.L.length zc]) { b with name:=⟨c.to.toArray⟩ } V:=fun w' n => by
    obtain ⟨A',c',q',e1,e2,e3,e4,e5,e6⟩:=hRB.nw n
    injection e1 with e1
    injection e1 with e1
    simp at e1
    obtain ⟨rfl,rfl⟩:=e1
    exact ⟨_,_,q',rfl,e2,e3,e4,e5,e6⟩
   exact ⟨.inr ⟨rfl,_,rfl,renames_does (h.nw (nf _ _ _)) ok hVl (nf _ _ _).size hu (hyb.kp (kz _ _ _) fun (e:y = z) => by omega) (hxb.kp (kz _ _ _) fun (e:x = z) => by omega) (hqb.kp (kz _ _ _) fun (e:q = z) => by omega) (hRB2 _ (nf _ _ _)) (by omega) (by omega) (by omega)⟩,nf _ _ _⟩
end Go.Proofs.YtellahclbhfdiaaGreatDoor
