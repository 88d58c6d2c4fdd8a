/-
  What the Reader of octet takes: raw bytes, numbers, rows. By the session itself. What the Writer of octet lays: numbers, rows of bytes, raw bytes. By the session itself. What the Writer of octet lays: numbers, rows; what it hands out. By the session itself.
-/
import Derived.Test.YtellahclbhfdiaaGreatDoorZ07
import Derived.Laws.BitsAllLaws
namespace Go.Proofs.YtellahclbhfdiaaGreatDoor
set_option linter.unusedSimpArgs false
set_option linter.unusedVariables false
set_option maxRecDepth 100000
open Go.Vc Go.RowKit
/-- So many bytes: what comes, what is left, whether it erred. -/
def rawL (l:List UInt8) (bad:Bool) (n:Int):List UInt8 × List UInt8 × Bool:=if 0 ≤ n ∧ n ≤ l.length then (l.take n.toNat,l.drop n.toNat,bad) else ([],[],true)
theorem rdr_cut {w:World} {g c:Nat} {A:Option Addr} {l:List UInt8} {bad:Bool} {F:Nat → Prop} (hb:Blk w g 153 #[.slice A l.length c,.bool bad]) (hc:l.length ≤ c) (hcm:c ≤ maxLen)
  (hr:Rd w A (l.map u8)) (ho:Off A (At g)) (hbad:bad = true → l = []) (hF:∀ k,k = g ∨ blk A k → F k) (hFl:∀ k,F k → k < w.heap.size) (m:Nat) (hm:m ≤ l.length) :
  Rdr (w.setCell ⟨g,0,none⟩ (.slice (cutA A c m) (l.length - m) (c - m))) g (l.drop m) bad F:=by
 have hs:Kp (At g) w (w.setCell ⟨g,0,none⟩ (.slice (cutA A c m) (l.length - m) (c - m))):=(Kp.refl _ _).setCell_at _ _
 refine ⟨cutA A c m,c - m,?_,by simp; omega,by omega,?_,ho.cut c m,?_,?_,by simpa using hFl⟩
 ·simpa [cutA] using hb.set 0 _
 ·rw [List.map_drop]
  exact ((hr.cut (by simpa using hc) m).kp hs ((ho.cut c m).l _))
 ·intro h
  simp [hbad h]
 ·rintro k (rfl | h)
  ·exact hF _ (.inl rfl)
  ·exact hF _ (.inr (blk_cut h))
theorem raw_spec (g:Nat) (l:List UInt8) (bad:Bool) (F:Nat → Prop) (n:Int) (w:World) (h:Rdr w g l bad F) (hl:l.length ≤ 140737488355328) :
  Cal Tryz.prog 82 #[.pointer (some ⟨g,0,none⟩),i64 n] w fun v w' => Bs w' v (rawL l bad n).1 w.heap.size ∧ Rdr w' g (rawL l bad n).2.1 (rawL l bad n).2.2 F ∧ Kp (At g) w w':=by
 obtain ⟨A,c,hb,hc,hcm,hr,ho,hbad,hF,hFl⟩:=id h
 have h0:=hb.cell 0
 have f0:=hb.frozen 0
 by_cases h1:n < 0
 ·have e:rawL l bad n = ([],[],true):=if_neg (by omega)
  rw [e]
  refine enter Tryz.mixed Tryz.func82 rfl (by kernel_rfl) ?_
  simp -dsimp [go_sem,h1]
  refine call (bad_spec g l bad F w h) ?_
  rintro v w' ⟨rfl,hR,hk⟩
  simp -dsimp [go_sem]
  exact ⟨⟨none,0,rfl,Ow.nil _ _ _,by simp⟩,hR,hk⟩
 ·by_cases h2:(l.length:Int) < n
  ·have e:rawL l bad n = ([],[],true):=if_neg (by omega)
   rw [e]
   refine enter Tryz.mixed Tryz.func82 rfl (by kernel_rfl) ?_
   simp -dsimp [go_sem,h1,h0,h2]
   refine call (bad_spec g l bad F w h) ?_
   rintro v w' ⟨rfl,hR,hk⟩
   simp -dsimp [go_sem]
   exact ⟨⟨none,0,rfl,Ow.nil _ _ _,by simp⟩,hR,hk⟩
  ·obtain ⟨m,rfl⟩:∃ m:Nat,n = m:=⟨n.toNat,by omega⟩
   have hm:m ≤ l.length:=by omega
   have e:rawL l bad m = (l.take m,l.drop m,bad):=if_pos (by omega)
   rw [e]
   refine enter Tryz.mixed Tryz.func82 rfl (by kernel_rfl) ?_
   have hmc:m ≤ c:=by omega
   simp -dsimp [go_sem,h1,h0,h2,hmc,sliced]
   have hr1:Rd w A ((l.take m).map u8):=by rw [List.map_take]; exact hr.take m
   have hc1:=clone_spec A c (l.take m) w hr1 (by simp; omega)
   rw [List.length_take,Nat.min_eq_left hm] at hc1
   refine call hc1 ?_
   rintro v w' ⟨⟨A',c',rfl,hw,hf⟩,hk⟩
   have hb':=hb.kp hk (fun h => h)
   have h0':=hb'.cell 0
   have f0':=hb'.frozen 0
   simp -dsimp [go_sem,h0',f0',hm,sliced]
   have hs:Kp (At g) w' (w'.setCell ⟨g,0,none⟩ (.slice (cutA A c m) (l.length - m) (c - m))):=(Kp.refl _ _).setCell_at _ _
   refine ⟨⟨A',c',by simp [Nat.min_eq_left hm],hw.kp hs fun a ha e => ?_,hf⟩,rdr_cut hb' hc hcm (hr.nw hk) ho hbad hF (fun k h => Nat.lt_of_lt_of_le (hFl k h) hk.size) m hm,(hk.kp _).trans hs fun _ _ h => h⟩
   have h1:=hf a ha
   have h2:=hb.lt
   have e:a.block = g:=e
   omega
/-- A number, taken from byte i on, u being what the bytes ahead told. -/
def takeN:Nat → Nat → List UInt8 → Option (Nat × List UInt8)
 | _,_,[] => none
 | i,u,c :: r => if 9 ≤ i ∨ 0 < i ∧ c.toNat = 0 then none else
  if c.toNat < 128 then (if 4611686018427387904 < u + c.toNat % 128 * 2 ^ (7 * i) then none else some (u + c.toNat % 128 * 2 ^ (7 * i),r)) else takeN (i + 1) (u + c.toNat % 128 * 2 ^ (7 * i)) r
/-- A number taken: what comes, what is left, whether it erred. -/
def numL (l:List UInt8) (bad:Bool):Nat × List UInt8 × Bool:=match takeN 0 0 l with | some (u,r) => (u,r,bad) | none => (0,[],true)
theorem or_join (k u x:Nat) (hk:k ≤ 8) (hu:u < 2 ^ (7 * k)) (hx:x < 128):bits .or .u64 (u:Int) ((x * 2 ^ (7 * k):Nat):Int) = ((u + x * 2 ^ (7 * k):Nat):Int):=by
 have h1:2 ^ (7 * k) ≤ 2 ^ 56:=Nat.pow_le_pow_right (by omega) (by omega)
 have h2:x * 2 ^ (7 * k) ≤ 127 * 2 ^ 56:=Nat.mul_le_mul (by omega) h1
 rw [u64_or_nat u _ (by omega) (by omega),Nat.or_comm,nat_join (7 * k) _ _ (Nat.mul_mod_left _ _) hu,Nat.add_comm]
theorem shl_num (c k:Nat) (hc:c < 256) (hk:k ≤ 8):Op.shift .shl .u64 (IntKind.u64.wrap (bits .and .u8 (c:Int) 127)) .i64 (IntKind.i64.wrap (7 * (k:Int))) = pure (.int .u64 ((c % 128 * 2 ^ (7 * k):Nat):Int)):=by
 have h1:2 ^ (7 * k) ≤ 2 ^ 56:=Nat.pow_le_pow_right (by omega) (by omega)
 have h2:c % 128 * 2 ^ (7 * k) ≤ 127 * 2 ^ 56:=Nat.mul_le_mul (by omega) h1
 have e1:bits .and .u8 (c:Int) 127 = ((c % 128:Nat):Int):=by
  rw [show (127:Int) = ((127:Nat):Int) from rfl,u8_and_nat c 127 hc (by omega),nat_mask7]
 have e2:IntKind.u64.wrap ((c % 128:Nat):Int) = ((c % 128:Nat):Int):=by rw [IntKind.wrap_u64]; omega
 have e3:IntKind.i64.wrap (7 * (k:Int)) = ((7 * k:Nat):Int):=by rw [w64 (by omega) (by omega)]; omega
 rw [e1,e2,e3,shift_shl .u64 .i64 _ _ (by omega) (by simp [IntKind.bits]; omega),Int.toNat_natCast]
 congr 2
 rw [show ((c % 128:Nat):Int) * 2 ^ (7 * k) = ((c % 128 * 2 ^ (7 * k):Nat):Int) by simp,IntKind.wrap_u64]
 omega
theorem num_spec (g:Nat) (l:List UInt8) (bad:Bool) (F:Nat → Prop) (w:World) (h:Rdr w g l bad F) (hl:l.length ≤ 140737488355328) :
  Cal Tryz.prog 39 #[.pointer (some ⟨g,0,none⟩)] w fun v w' => v = i64 (numL l bad).1 ∧ Rdr w' g (numL l bad).2.1 (numL l bad).2.2 F ∧ Kp (At g) w w':=by
 obtain ⟨A,c,hb,hc,hcm,hr,ho,hbad,hF,hFl⟩:=id h
 have h0:=hb.cell 0
 have f0:=hb.frozen 0
 refine enter Tryz.mixed Tryz.func39 rfl (by kernel_rfl) ?_
 simp -dsimp [go_sem,h0]
 refine loop [2,3,4,5,13,14,15,16,17,18,19,20,21,22,23,24,25,26,27,28,29,30,31,32,33,34,35,36,37,38,39,40,41,42,43,44,45,46,47,48,49,50,51,52] (by kernel_rfl)
  (fun f w' => ∃ k u:Nat,k ≤ l.length ∧ k ≤ 9 ∧ f 13 = i64 k ∧ f 3 = .int .u64 u ∧ u < 2 ^ (7 * k) ∧ takeN k u (l.drop k) = takeN 0 0 l ∧ w = w') (fun f _ => l.length - (intOf (f 13)).toNat) ⟨0,0,by simp [upd]⟩ ?_
 rintro f w' ⟨k,u,hk,hk9,f13,f3,hu,ht,rfl⟩
 simp -dsimp [go_sem,f13,f3]
 refine cond_d (fun hlt => ?_) (fun hlt => ?_)
 ·have hlt:k < l.length:=by omega
  obtain ⟨b,o,rfl,hcell⟩:=hr k (u8 l[k]) (by simp [hlt])
  have hd:l.drop k = l[k] :: l.drop (k + 1):=List.drop_eq_getElem_cons hlt
  by_cases h9:9 ≤ k
  ·have h9i:(9:Int) ≤ (k:Int):=by omega
   have e:numL l bad = (0,[],true):=by
    have:takeN 0 0 l = none:=by rw [← ht,hd]; simp [takeN,h9]
    simp [numL,this]
   simp -dsimp [go_sem,f13,f3,hlt,hcell,h9i]
   rw [e]
   refine call (bad_spec g l bad F w h) ?_
   rintro v w' ⟨rfl,hR,hkp⟩
   simp -dsimp [go_sem]
   exact ⟨hR,hkp⟩
  ·have h9i:¬ (9:Int) ≤ (k:Int):=by omega
   by_cases hz:0 < k ∧ l[k].toNat = 0
   ·have hki:0 < k:=hz.1
    have hz0:(l[k].toNat:Int) = 0:=by omega
    have e:numL l bad = (0,[],true):=by
     have:takeN 0 0 l = none:=by rw [← ht,hd]; simp [takeN,hz]
     simp [numL,this]
    simp -dsimp [go_sem,f13,f3,hlt,hcell,h9i,hki,hz0]
    rw [e]
    refine call (bad_spec g l bad F w h) ?_
    rintro v w' ⟨rfl,hR,hkp⟩
    simp -dsimp [go_sem]
    exact ⟨hR,hkp⟩
   ·obtain ⟨x,hx⟩:∃ x,x = l[k].toNat % 128 * 2 ^ (7 * k):=⟨_,rfl⟩
    obtain ⟨y,hy⟩:∃ y,y = u + x:=⟨_,rfl⟩
    have hsh:=shl_num l[k].toNat k (UInt8.toNat_lt _) (by omega)
    have hor:=or_join k u (l[k].toNat % 128) (by omega) hu (by omega)
    rw [← hx] at hsh hor
    rw [← hy] at hor
    have hy2:y < 2 ^ (7 * (k + 1)):=by
     have h1:x ≤ 127 * 2 ^ (7 * k):=by rw [hx]; exact Nat.mul_le_mul_right _ (by omega)
     have h2:2 ^ (7 * (k + 1)) = 128 * 2 ^ (7 * k):=by rw [show 7 * (k + 1) = 7 + 7 * k by omega,Nat.pow_add]
     omega
    have hy3:y < 9223372036854775808:=Nat.lt_of_lt_of_le hy2 (Nat.pow_le_pow_right (by omega) (by omega:7 * (k + 1) ≤ 63))
    by_cases hk0:0 < k
    ·have hcz:((l[k].toNat:Int) == 0) = false:=by simp; omega
     simp -dsimp [go_sem,f13,f3,hlt,hcell,h9i,hk0,hcz,hsh,hor]
     refine cond_d (fun hs => ?_) (fun hs => ?_)
     ·have hs:l[k].toNat < 128:=by omega
      simp -dsimp [go_sem]
      refine cond_d (fun hbig => ?_) (fun hbig => ?_)
      ·have hbig:4611686018427387904 < y:=by omega
       have e:numL l bad = (0,[],true):=by
        have:takeN 0 0 l = none:=by
         rw [← ht,hd]
         simp only [takeN]
         rw [if_neg (by omega),if_pos hs,if_pos (by omega)]
        simp [numL,this]
       simp -dsimp [go_sem]
       rw [e]
       refine call (bad_spec g l bad F w h) ?_
       rintro v w' ⟨rfl,hR,hkp⟩
       simp -dsimp [go_sem]
       exact ⟨hR,hkp⟩
      ·have hbig:y ≤ 4611686018427387904:=by omega
       have e:numL l bad = (y,l.drop (k + 1),bad):=by
        have:takeN 0 0 l = some (y,l.drop (k + 1)):=by
         rw [← ht,hd]
         simp only [takeN]
         rw [if_neg (by omega),if_pos hs,if_neg (by omega),← hx,← hy]
        simp [numL,this]
       rw [e]
       have hk1:IntKind.i64.wrap ((k:Int) + 1) = ((k + 1:Nat):Int):=w64 (by omega) (by omega)
       have hy4:IntKind.i64.wrap (y:Int) = y:=w64 (by omega) (by omega)
       obtain ⟨k1,hk1'⟩:∃ k1,k1 = k + 1:=⟨_,rfl⟩
       rw [← hk1'] at hk1 ⊢
       have hkl:k1 ≤ l.length:=by omega
       simp -dsimp [go_sem,h0,f0,hk1,hkl,hy4]
       have hR:=rdr_cut hb hc hcm hr ho hbad hF hFl k1 hkl
       simp only [cutA,Option.map_some,Addr.add_lit] at hR
       exact ⟨hR,(Kp.refl _ _).setCell_at _ _⟩
     ·have hs:¬ l[k].toNat < 128:=by omega
      have hk1:IntKind.i64.wrap ((k:Int) + 1) = ((k + 1:Nat):Int):=w64 (by omega) (by omega)
      obtain ⟨k1,hk1'⟩:∃ k1,k1 = k + 1:=⟨_,rfl⟩
      rw [← hk1'] at hk1
      simp -dsimp [go_sem,f13,hk1]
      subst hk1'
      refine ⟨⟨k + 1,by omega,by omega,rfl,y,rfl,hy2,?_⟩,?_⟩
      ·rw [← ht,hd]
       simp only [takeN]
       rw [if_neg (by omega),if_neg hs,← hx,← hy]
      ·simp [intOf]; omega
    ·simp -dsimp [go_sem,f13,f3,hlt,hcell,h9i,hk0,hsh,hor]
     refine cond_d (fun hs => ?_) (fun hs => ?_)
     ·have hs:l[k].toNat < 128:=by omega
      simp -dsimp [go_sem]
      refine cond_d (fun hbig => ?_) (fun hbig => ?_)
      ·have hbig:4611686018427387904 < y:=by omega
       have e:numL l bad = (0,[],true):=by
        have:takeN 0 0 l = none:=by
         rw [← ht,hd]
         simp only [takeN]
         rw [if_neg (by omega),if_pos hs,if_pos (by omega)]
        simp [numL,this]
       simp -dsimp [go_sem]
       rw [e]
       refine call (bad_spec g l bad F w h) ?_
       rintro v w' ⟨rfl,hR,hkp⟩
       simp -dsimp [go_sem]
       exact ⟨hR,hkp⟩
      ·have hbig:y ≤ 4611686018427387904:=by omega
       have e:numL l bad = (y,l.drop (k + 1),bad):=by
        have:takeN 0 0 l = some (y,l.drop (k + 1)):=by
         rw [← ht,hd]
         simp only [takeN]
         rw [if_neg (by omega),if_pos hs,if_neg (by omega),← hx,← hy]
        simp [numL,this]
       rw [e]
       have hk1:IntKind.i64.wrap ((k:Int) + 1) = ((k + 1:Nat):Int):=w64 (by omega) (by omega)
       have hy4:IntKind.i64.wrap (y:Int) = y:=w64 (by omega) (by omega)
       obtain ⟨k1,hk1'⟩:∃ k1,k1 = k + 1:=⟨_,rfl⟩
       rw [← hk1'] at hk1 ⊢
       have hkl:k1 ≤ l.length:=by omega
       simp -dsimp [go_sem,h0,f0,hk1,hkl,hy4]
       have hR:=rdr_cut hb hc hcm hr ho hbad hF hFl k1 hkl
       simp only [cutA,Option.map_some,Addr.add_lit] at hR
       exact ⟨hR,(Kp.refl _ _).setCell_at _ _⟩
     ·have hs:¬ l[k].toNat < 128:=by omega
      have hk1:IntKind.i64.wrap ((k:Int) + 1) = ((k + 1:Nat):Int):=w64 (by omega) (by omega)
      obtain ⟨k1,hk1'⟩:∃ k1,k1 = k + 1:=⟨_,rfl⟩
      rw [← hk1'] at hk1
      simp -dsimp [go_sem,f13,hk1]
      subst hk1'
      refine ⟨⟨k + 1,by omega,by omega,rfl,y,rfl,hy2,?_⟩,?_⟩
      ·rw [← ht,hd]
       simp only [takeN]
       rw [if_neg (by omega),if_neg hs,← hx,← hy]
      ·simp [intOf]; omega
 ·have e:numL l bad = (0,[],true):=by
   have:takeN 0 0 l = none:=by rw [← ht,List.drop_of_length_le (by omega)]; rfl
   simp [numL,this]
  simp -dsimp [go_sem]
  rw [e]
  refine call (bad_spec g l bad F w h) ?_
  rintro v w' ⟨rfl,hR,hkp⟩
  simp -dsimp [go_sem]
  exact ⟨hR,hkp⟩
/-- A row of bytes taken. -/
def bytL (l:List UInt8) (bad:Bool):List UInt8 × List UInt8 × Bool:=rawL (numL l bad).2.1 (numL l bad).2.2 (numL l bad).1
theorem takeN_len:∀ (l:List UInt8) (i u n:Nat) (r:List UInt8),takeN i u l = some (n,r) → r.length ≤ l.length ∧ n ≤ 4611686018427387904
 | [],_,_,_,_,h => by simp [takeN] at h
 | c :: l,i,u,n,r,h => by
  simp only [takeN] at h
  split at h
  ·cases h
  ·split at h
   ·split at h
    ·cases h
    ·injection h with h
     injection h with h1 h2
     subst h1; subst h2
     exact ⟨by simp,by omega⟩
   ·have:=takeN_len l _ _ _ _ h
    exact ⟨by simp; omega,this.2⟩
theorem numL_len (l:List UInt8) (bad:Bool):(numL l bad).2.1.length ≤ l.length:=by
 unfold numL
 split
 ·rename_i u r h; exact (takeN_len l _ _ _ _ h).1
 ·simp
theorem rBytes_spec (g:Nat) (l:List UInt8) (bad:Bool) (F:Nat → Prop) (w:World) (h:Rdr w g l bad F) (hl:l.length ≤ 140737488355328) :
  Cal Tryz.prog 40 #[.pointer (some ⟨g,0,none⟩)] w fun v w' => Bs w' v (bytL l bad).1 w.heap.size ∧ Rdr w' g (bytL l bad).2.1 (bytL l bad).2.2 F ∧ Kp (At g) w w':=by
 refine enter Tryz.mixed Tryz.func40 rfl (by kernel_rfl) ?_
 simp -dsimp [go_sem]
 refine call (num_spec g l bad F w h hl) ?_
 rintro v w1 ⟨rfl,hR,hk⟩
 simp -dsimp [go_sem]
 refine call (raw_spec g _ _ F _ w1 hR (Nat.le_trans (numL_len l bad) hl)) ?_
 rintro v w2 ⟨hB,hR2,hk2⟩
 simp -dsimp [go_sem]
 exact ⟨hB.mono hk.size,hR2,hk.trans hk2 fun _ _ h => h⟩
/-- A number as bytes. -/
def numB (n:Nat):List UInt8:=if h:n < 128 then [UInt8.ofNat n] else UInt8.ofNat (n % 128 + 128) :: numB (n / 128)
termination_by n
decreasing_by omega
theorem numB_small {n:Nat} (h:n < 128):numB n = [UInt8.ofNat n]:=by rw [numB,dif_pos h]
theorem numB_big {n:Nat} (h:¬ n < 128):numB n = UInt8.ofNat (n % 128 + 128) :: numB (n / 128):=by rw [numB,dif_neg h]
theorem numB_len (k:Nat):∀ n,n < 2 ^ (7 * (k + 1)) → (numB n).length ≤ k + 1:=by
 induction k with
 | zero => intro n h; rw [numB_small (by simpa using h)]; simp
 | succ k ih =>
  intro n h
  by_cases hs:n < 128
  ·rw [numB_small hs]; simp
  ·rw [numB_big hs,List.length_cons]
   have:=ih (n / 128) (by rw [show 7 * (k + 1 + 1) = 7 * (k + 1) + 7 by omega,Nat.pow_add] at h; omega)
   omega
/-- A number as it is laid. -/
def clampN (v:Int):Nat:=(max 0 (min v 4611686018427387904)).toNat
theorem clampN_le (v:Int):clampN v ≤ 4611686018427387904:=by unfold clampN; omega
def numsB (vs:List Int):List UInt8:=vs.flatMap fun v => numB (clampN v)
theorem numB_len9 {n:Nat} (h:n ≤ 4611686018427387904):(numB n).length ≤ 9:=numB_len 8 n (by omega)
theorem numsB_len (vs:List Int):(numsB vs).length ≤ 9 * vs.length:=by
 induction vs with
 | nil => simp [numsB]
 | cons v vs ih =>
  have:=numB_len9 (clampN_le v)
  simp only [numsB,List.flatMap_cons,List.length_append,List.length_cons] at ih ⊢
  omega
/-- A Writer at block g that has laid l; it lies within F. -/
def Wr (w:World) (g:Nat) (l:List UInt8) (F:Nat → Prop):Prop :=
 ∃ A c,Blk w g 70 #[.slice A l.length c] ∧ Ow w 5 1 A l.length c (l.map u8) ∧ Off A (At g) ∧ (∀ k,k = g ∨ blk A k → F k) ∧ (∀ k,F k → k < w.heap.size)
theorem Wr.kp_ {S:Nat → Prop} {w w':World} {g:Nat} {l:List UInt8} {F:Nat → Prop} (h:Wr w g l F) (k:Kp S w w') (hd:∀ i,F i → ¬ S i):Wr w' g l F:=by
 obtain ⟨A,c,hb,ho,hg,hF,hFl⟩:=h
 exact ⟨A,c,hb.kp k (hd _ (hF _ (.inl rfl))),ho.kp k (Off.of_blk fun i hi => hd _ (hF _ (.inr hi))),hg,hF,fun i hi => Nat.lt_of_lt_of_le (hFl i hi) k.size⟩
theorem Wr.lt_ {w:World} {g:Nat} {l:List UInt8} {F:Nat → Prop} (h:Wr w g l F):∀ k,F k → k < w.heap.size:=by
 obtain ⟨_,_,_,_,_,_,h⟩:=h
 exact h
/-- A store of what was appended. -/
theorem wr_app {w w1 w2:World} {g c c':Nat} {A A':Option Addr} {l m:List UInt8} {F:Nat → Prop} (hb:Blk w g 70 #[.slice A l.length c]) (hA:Off A (At g)) (hF:∀ k,k = g ∨ blk A k → F k)
  (h1:Nw w w1) (ho:Ow w2 5 1 A' (l.length + m.length) c' (l.map u8 ++ m.map u8)) (hk:Kp (blk A) w1 w2) (hAA:A' = A ∨ A' = some ⟨w1.heap.size,0,none⟩ ∧ w1.heap.size < w2.heap.size) :
  ∃ F',Wr (w2.setCell ⟨g,0,none⟩ (.slice A' (l.length + m.length) c')) g (l ++ m) F' ∧ Gr F F' w (w2.setCell ⟨g,0,none⟩ (.slice A' (l.length + m.length) c')) ∧ Kp F w (w2.setCell ⟨g,0,none⟩ (.slice A' (l.length + m.length) c')):=by
 have hoff:¬ blk A g:=fun h => by
  obtain ⟨a,rfl,e⟩:=blk_of h
  exact hA a rfl e
 have hb1:=hb.kp h1 (fun h => h)
 have hb2:=hb1.kp hk hoff
 have hA':Off A' (At g):=by
  rcases hAA with rfl | ⟨rfl,h⟩
  ·exact hA
  ·rintro a ha e
   cases ha
   have:=hb1.lt
   have e:w1.heap.size = g:=e
   omega
 have hs:Kp (At g) w2 (w2.setCell ⟨g,0,none⟩ (.slice A' (l.length + m.length) c')):=(Kp.refl _ _).setCell_at _ _
 refine ⟨fun k => k = g ∨ blk A' k,⟨A',c',?_,?_,hA',fun k h => h,?_⟩,?_,?_⟩
 ·simpa using hb2.set 0 _
 ·have:=ho.kp hs hA'
  simpa using this
 ·rintro k (rfl | h)
  ·simpa using hb2.lt
  ·obtain ⟨a,rfl,rfl⟩:=blk_of h
   simpa using ho.lt a rfl
 ·rintro k (rfl | h)
  ·exact .inl (hF _ (.inl rfl))
  ·rcases hAA with rfl | ⟨rfl,h'⟩
   ·exact .inl (hF _ (.inr h))
   ·have h:k = w1.heap.size:=h
    exact .inr ⟨by have:=h1.size; omega,by simp; omega⟩
 ·exact ((h1.kp F).trans (hk.mono fun k _ h => hF _ (.inr h)) fun _ _ h => h).trans (hs.mono fun k _ h => hF _ (.inl h)) fun _ _ h => h
theorem wRaw_spec (g:Nat) (l m:List UInt8) (F:Nat → Prop) (B:Option Addr) (d:Nat) (w:World) (h:Wr w g l F) (hr:Rd w B (m.map u8)) (hl:l.length + m.length ≤ 140737488355328) :
  Cal Tryz.prog 80 #[.pointer (some ⟨g,0,none⟩),.slice B m.length d] w fun v w' => v = .tuple #[] ∧ ∃ F',Wr w' g (l ++ m) F' ∧ Gr F F' w w' ∧ Kp F w w':=by
 obtain ⟨A,c,hb,ho,hA,hF,hFl⟩:=h
 have h0:=hb.cell 0
 have f0:=hb.frozen 0
 refine enter Tryz.mixed Tryz.func80 rfl (by kernel_rfl) ?_
 simp -dsimp [go_sem,h0]
 refine app Tryz.Su8 ho hr (by simp) (one_u8 m) (by omega) (by omega) ?_
 intro A' c' w' ho' hk hAA
 have hoff:¬ blk A g:=fun h => by
  obtain ⟨a,rfl,e⟩:=blk_of h
  exact hA a rfl e
 have hb':=hb.kp hk hoff
 simp -dsimp [go_sem,hb'.cell 0,hb'.frozen 0]
 exact wr_app hb hA hF (Kp.refl _ w) ho' hk hAA
theorem wOut_spec (g:Nat) (l:List UInt8) (F:Nat → Prop) (w:World) (h:Wr w g l F) (hl:l.length ≤ 140737488355328) :
  Cal Tryz.prog 33 #[.pointer (some ⟨g,0,none⟩)] w fun v w' => Bs w' v l w.heap.size ∧ Nw w w':=by
 obtain ⟨A,c,hb,ho,hA,hF,hFl⟩:=h
 have h0:=hb.cell 0
 refine enter Tryz.mixed Tryz.func33 rfl (by kernel_rfl) ?_
 simp -dsimp [go_sem,h0]
 refine call (clone_spec A c l w ho.rd hl) ?_
 rintro v w' ⟨hB,hk⟩
 simp -dsimp [go_sem]
 exact ⟨hB,hk⟩
theorem or128 (n:Nat):bits .or .u8 (IntKind.u8.wrap (n:Int)) 128 = ((n % 128 + 128:Nat):Int):=by
 have e:IntKind.u8.wrap (n:Int) = ((n % 256:Nat):Int):=by rw [IntKind.wrap_u8']; omega
 rw [e,show (128:Int) = ((128:Nat):Int) from rfl,u8_or_nat _ 128 (by omega) (by omega)]
 congr 1
 have h1:n % 256 = n % 256 / 128 * 128 + n % 128:=by omega
 have h2:n % 256 / 128 = 0 ∨ n % 256 / 128 = 1:=by omega
 rcases h2 with h2 | h2
 ·rw [h2] at h1
  rw [h1,Nat.zero_mul,Nat.zero_add,Nat.or_comm,nat_join 7 128 (n % 128) (by decide) (by omega)]
  omega
 ·rw [h2,Nat.one_mul] at h1
  rw [h1,← nat_join 7 128 (n % 128) (by decide) (by omega),Nat.or_comm,← Nat.or_assoc,Nat.or_self,nat_join 7 128 (n % 128) (by decide) (by omega)]
  omega
theorem numB_pos (n:Nat):1 ≤ (numB n).length:=by
 by_cases h:n < 128
 ·rw [numB_small h]; simp
 ·rw [numB_big h]; simp
theorem wNums_spec (g:Nat) (l:List UInt8) (vs:List Int) (F:Nat → Prop) (B:Option Addr) (d:Nat) (w:World) (h:Wr w g l F) (hr:Rd w B (vs.map i64)) (hB:Ofl B (vs.map i64) F) (hl:l.length + 9 * vs.length ≤ 140737488355328) :
  Cal Tryz.prog 31 #[.pointer (some ⟨g,0,none⟩),.slice B vs.length d] w fun v w' => v = .tuple #[] ∧ ∃ F',Wr w' g (l ++ numsB vs) F' ∧ Gr F F' w w' ∧ Kp F w w':=by
 refine enter Tryz.mixed Tryz.func31 rfl (by kernel_rfl) ?_
 simp -dsimp [go_sem]
 refine loop [5,6,11,12,13,14,15,16,17,18,19,20,21,22,23,24,25,26,27,28,29,30,31,32,33,34,35,36,37,38,39,40,41,42,43,44,45,46] (by kernel_rfl)
  (fun f w' => Box (∃ k F',k ≤ vs.length ∧ f 11 = i64 (k:Nat) ∧ Wr w' g (l ++ numsB (vs.take k)) F' ∧ Gr F F' w w' ∧ Kp F w w')) (fun f _ => vs.length - (intOf (f 11)).toNat) ⟨0,F,Nat.zero_le _,rfl,by simpa [numsB] using h,Gr.refl _ _,Kp.refl _ _⟩ ?_
 rintro f w' ⟨k,F',hk,f11,hW,hG,hK⟩
 simp -dsimp [go_sem,f11]
 refine cond_d (fun hlt => ?_) (fun hlt => ?_)
 ·have hlt:k < vs.length:=by omega
  obtain ⟨b,o,rfl,hcell⟩:=hr k (i64 vs[k]) (by simp [hlt])
  have hcell':=hK.cell_some hcell (hB ⟨b,o,none⟩ rfl (by rintro h; rw [List.map_eq_nil_iff] at h; subst h; cases hlt):¬ F b)
  have hlen:(numsB (vs.take k)).length ≤ 9 * k:=by
   have:=numsB_len (vs.take k)
   rw [List.length_take,Nat.min_eq_left hk] at this
   exact this
  have hcl:max 0 (min vs[k] 4611686018427387904) = (clampN vs[k]:Int):=by unfold clampN; omega
  have htake:numsB (vs.take (k + 1)) = numsB (vs.take k) ++ numB (clampN vs[k]):=by
   unfold numsB
   rw [List.take_succ_eq_append_getElem hlt,List.flatMap_append]
   simp
  have hn:=clampN_le vs[k]
  have hw:IntKind.u64.wrap (clampN vs[k]:Int) = clampN vs[k]:=by rw [IntKind.wrap_u64]; omega
  obtain ⟨n,hn'⟩:∃ n,n = clampN vs[k]:=⟨_,rfl⟩
  rw [← hn'] at hw hcl hn htake
  simp -dsimp [go_sem,f11,hlt,hcell',hcl,hw]
  refine loop [6,19,20,21,22,23,24,25,26,27,28,29,30,31,32,33,34] (by kernel_rfl)
   (fun f2 w2 => Box (∃ (u:Nat) (l2:List UInt8) (F2:Nat → Prop),u ≤ n ∧ f2 6 = .int .u64 (u:Nat) ∧ l2 ++ numB u = l ++ numsB (vs.take (k + 1)) ∧ Wr w2 g l2 F2 ∧ Gr F F2 w w2 ∧ Kp F w w2)) (fun f2 _ => (intOf (f2 6)).toNat)
   ⟨n,_,F',Nat.le_refl _,by simp [upd],by rw [htake,List.append_assoc],hW,hG,hK⟩ ?_
  rintro f2 w2 ⟨u,l2,F2,hu,f6,hl2,hW2,hG2,hK2⟩
  have hlen2:l2.length + 1 ≤ l.length + 9 * (k + 1):=by
   have hp:=numB_pos u
   have h1:=congrArg List.length hl2
   rw [List.length_append,List.length_append,htake,List.length_append] at h1
   have h2:=numB_len9 hn
   omega
  obtain ⟨A,c,hb,ho,hA,hF,hFl⟩:=id hW2
  have h0:=hb.cell 0
  have f0:=hb.frozen 0
  simp -dsimp [go_sem,f6]
  refine cond_d (fun hbig => ?_) (fun hbig => ?_)
  ·have hbig:¬ u < 128:=by omega
   have hlt:=hb.lt
   have h0':(w2.alloc (.cells #[.int .u8 ((u % 128 + 128:Nat):Int)] 5)).cell? ⟨g,0,none⟩ = some (.slice A l2.length c):=by rw [World.cell?_alloc_lt _ _ _ hlt,h0]; rfl
   have ho1:=or128 u
   obtain ⟨x,hx⟩:∃ x,x = u % 128 + 128:=⟨_,rfl⟩
   rw [← hx] at ho1 h0'
   simp -dsimp [go_sem,f6,h0,ho1]
   have hnw:Nw w2 (w2.alloc (.cells #[.int .u8 (x:Int)] 5)):=(Kp.refl _ _).alloc _
   have hrd:Rd (w2.alloc (.cells #[.int .u8 (x:Int)] 5)) (some ⟨w2.heap.size,0,none⟩) ([UInt8.ofNat x].map u8):=by
    have hx256:x < 256:=by omega
    rw [List.map_cons,List.map_nil,byteOf x hx256]
    exact (Ow.made w2 5 1 1 #[.int .u8 (x:Int)] rfl (by simp [maxLen])).rd
   refine app Tryz.Su8 (ho.nw hnw) hrd (m:=1) (by simp) (one_u8 _) (by omega) (by omega) ?_
   intro A' c' w3 ho3 hk3 hAA
   have hoff:¬ blk A g:=fun h => by
    obtain ⟨a,rfl,e⟩:=blk_of h
    exact hA a rfl e
   have hb3:=(hb.kp hnw (fun h => h)).kp hk3 hoff
   simp -dsimp [go_sem,hb3.cell 0,hb3.frozen 0]
   obtain ⟨F3,hW3,hG3,hK3⟩:=wr_app (m:=[UInt8.ofNat x]) hb hA hF hnw ho3 hk3 hAA
   have hsh:(u:Int) / 128 = ((u / 128:Nat):Int):=by omega
   obtain ⟨y,hy⟩:∃ y,y = u / 128:=⟨_,rfl⟩
   rw [← hy] at hsh
   simp -dsimp [go_sem,f6,hsh]
   refine ⟨⟨y,l2 ++ [UInt8.ofNat x],F3,by omega,rfl,?_,hW3,hG2.trans hG3 hK2.size hK3.size,hK2.gr hG2 hK3⟩,?_⟩
   ·rw [← hl2,numB_big hbig,hx,hy,List.append_assoc]; rfl
   ·simp [intOf]; omega
  ·have hbig:u < 128:=by omega
   have hwu:IntKind.u8.wrap (u:Int) = u:=by rw [IntKind.wrap_u8']; omega
   have hk1:IntKind.i64.wrap ((k:Int) + 1) = ((k + 1:Nat):Int):=w64 (by omega) (by omega)
   simp -dsimp [go_sem,f6,h0,hwu]
   have hnw:Nw w2 (w2.alloc (.cells #[.int .u8 (u:Int)] 5)):=(Kp.refl _ _).alloc _
   have hrd:Rd (w2.alloc (.cells #[.int .u8 (u:Int)] 5)) (some ⟨w2.heap.size,0,none⟩) ([UInt8.ofNat u].map u8):=by
    have hx256:u < 256:=by omega
    rw [List.map_cons,List.map_nil,byteOf u hx256]
    exact (Ow.made w2 5 1 1 #[.int .u8 (u:Int)] rfl (by simp [maxLen])).rd
   refine app Tryz.Su8 (ho.nw hnw) hrd (m:=1) (by simp) (one_u8 _) (by omega) (by omega) ?_
   intro A' c' w3 ho3 hk3 hAA
   have hoff:¬ blk A g:=fun h => by
    obtain ⟨a,rfl,e⟩:=blk_of h
    exact hA a rfl e
   have hb3:=(hb.kp hnw (fun h => h)).kp hk3 hoff
   simp -dsimp [go_sem,hb3.cell 0,hb3.frozen 0]
   obtain ⟨F3,hW3,hG3,hK3⟩:=wr_app (m:=[UInt8.ofNat u]) hb hA hF hnw ho3 hk3 hAA
   obtain ⟨k1,hk1'⟩:∃ k1,k1 = k + 1:=⟨_,rfl⟩
   rw [← hk1'] at hk1
   simp -dsimp [go_sem,f11,hk1]
   refine ⟨⟨k1,F3,by omega,rfl,?_,hG2.trans hG3 hK2.size hK3.size,hK2.gr hG2 hK3⟩,?_⟩
   ·rw [hk1',← hl2,numB_small hbig]; exact hW3
   ·simp [intOf]; omega
 ·obtain rfl:k = vs.length:=by omega
  simp -dsimp [go_sem]
  rw [List.take_length] at hW
  exact ⟨F',hW,hG,hK⟩
/-- A row with its length. -/
def rowB (p:List UInt8):List UInt8:=numB p.length ++ p
def rowsB (ps:List (List UInt8)):List UInt8:=ps.flatMap rowB
/-- What rows hold together, a number's nine bytes for each. -/
def load (ps:List (List UInt8)):Nat:=(ps.map fun p => p.length + 9).sum
theorem load_take (ps:List (List UInt8)) (k:Nat):load (ps.take k) ≤ load ps:=by
 have h:=congrArg load (List.take_append_drop k ps)
 simp only [load,List.map_append,List.sum_append] at h ⊢
 omega
theorem load_ge (ps:List (List UInt8)):ps.length ≤ load ps:=by
 induction ps with
 | nil => simp
 | cons p ps ih => simp only [load,List.map_cons,List.sum_cons,List.length_cons] at ih ⊢; omega
theorem load_at (ps:List (List UInt8)) (k:Nat) (hk:k < ps.length):load (ps.take (k + 1)) = load (ps.take k) + ps[k].length + 9:=by
 unfold load
 rw [List.take_succ_eq_append_getElem hk,List.map_append,List.sum_append]
 simp
 omega
theorem rowB_len (p:List UInt8) (h:p.length ≤ 4611686018427387904):(rowB p).length ≤ p.length + 9:=by
 have:=numB_len9 h
 simp [rowB]; omega
theorem rowsB_len (ps:List (List UInt8)) (h:load ps ≤ 4611686018427387904):(rowsB ps).length ≤ load ps:=by
 induction ps with
 | nil => simp [rowsB]
 | cons p ps ih =>
  simp only [load,List.map_cons,List.sum_cons] at h ih ⊢
  have h1:=ih (by omega)
  have h2:=rowB_len p (by omega)
  simp only [rowsB,List.flatMap_cons,List.length_append] at h1 ⊢
  omega
theorem wBytes_spec (g:Nat) (l:List UInt8) (ps:List (List UInt8)) (F:Nat → Prop) (A:Option Addr) (c:Nat) (w:World) (h:Wr w g l F) (hr:Brs w A ps F) (hl:l.length + load ps ≤ 140737488355328) :
  Cal Tryz.prog 32 #[.pointer (some ⟨g,0,none⟩),.slice A ps.length c] w fun v w' => v = .tuple #[] ∧ ∃ F',Wr w' g (l ++ rowsB ps) F' ∧ Gr F F' w w' ∧ Kp F w w':=by
 refine enter Tryz.mixed Tryz.func32 rfl (by kernel_rfl) ?_
 simp -dsimp [go_sem]
 refine loop [5,8,9,10,11,12,13,14,15,16,17,18,19,20] (by kernel_rfl)
  (fun f w' => Box (∃ k F',k ≤ ps.length ∧ f 8 = i64 (k:Nat) ∧ Wr w' g (l ++ rowsB (ps.take k)) F' ∧ Gr F F' w w' ∧ Kp F w w')) (fun f _ => ps.length - (intOf (f 8)).toNat) ⟨0,F,Nat.zero_le _,rfl,by simpa [rowsB] using h,Gr.refl _ _,Kp.refl _ _⟩ ?_
 rintro f w' ⟨k,F',hk,f8,hW,hG,hK⟩
 simp -dsimp [go_sem,f8]
 refine cond_d (fun hlt => ?_) (fun hlt => ?_)
 ·have hlt:k < ps.length:=by omega
  obtain ⟨vs,hvl,hrd,hoA,hi⟩:=id hr
  obtain ⟨B,d,hv,hrB,hoB,hd⟩:=hi k hlt
  obtain ⟨b,o,rfl,hcell⟩:=hrd k _ hv
  have hcell:=hK.cell_some hcell (hoA ⟨b,o,none⟩ rfl (by rintro rfl; cases hv):¬ F b)
  have h0:=load_ge ps
  have h1:=load_take ps k
  have h2:=load_at ps k hlt
  have h3:=load_take ps (k + 1)
  have h4:=rowsB_len (ps.take k) (by omega)
  simp -dsimp [go_sem,f8,hlt,hcell]
  have ha:Nw w' (w'.alloc (.cells #[.int .i64 (ps[k].length:Int)] 3)):=(Kp.refl _ _).alloc _
  have hrd1:Rd (w'.alloc (.cells #[.int .i64 (ps[k].length:Int)] 3)) (some ⟨w'.heap.size,0,none⟩) ([(ps[k].length:Int)].map i64):=(Ow.made w' 3 1 1 #[.int .i64 (ps[k].length:Int)] rfl (by simp [maxLen])).rd
  have hoff1:Off (some ⟨w'.heap.size,0,none⟩) F':=by
   rintro a ha hF
   cases ha
   exact Nat.lt_irrefl _ (Wr.lt_ hW _ hF)
  refine call (wNums_spec g _ [(ps[k].length:Int)] F' _ 1 _ (Wr.kp_ hW ha fun _ _ h => h) hrd1 (hoff1.l _) (by simp; omega)) ?_
  rintro v w2 ⟨rfl,F2,hW2,hG2,hK2⟩
  have hK1:Kp F w w2:=hK.gr hG ((ha.kp F').trans hK2 fun _ _ h => h)
  have hG1:Gr F F2 w w2:=hG.trans (fun i hi => by
   rcases hG2 i hi with h | h
   ·exact .inl h
   ·exact .inr ⟨by have:=h.1; simp at this; omega,h.2⟩) hK.size (Nat.le_trans ha.size hK2.size)
  have hn9:(numsB [(ps[k].length:Int)]) = numB ps[k].length:=by
   simp only [numsB,List.flatMap_cons,List.flatMap_nil,List.append_nil]
   congr 1
   unfold clampN
   omega
  have hn9l:=numB_len9 (n:=ps[k].length) (by omega)
  rw [hn9] at hW2
  simp -dsimp [go_sem]
  refine call (wRaw_spec g _ ps[k] F2 B d w2 hW2 (hrB.kp hK1 hoB) (by simp only [List.length_append]; omega)) ?_
  rintro v w3 ⟨rfl,F3,hW3,hG3,hK3⟩
  have hk1:IntKind.i64.wrap ((k:Int) + 1) = ((k + 1:Nat):Int):=w64 (by omega) (by omega)
  obtain ⟨k1,hk1'⟩:∃ k1,k1 = k + 1:=⟨_,rfl⟩
  rw [← hk1'] at hk1
  simp -dsimp [go_sem,f8,hk1]
  refine ⟨⟨k1,F3,by omega,rfl,?_,hG1.trans hG3 hK1.size hK3.size,hK1.gr hG1 hK3⟩,?_⟩
  ·have e:rowsB (ps.take k1) = rowsB (ps.take k) ++ (numB ps[k].length ++ ps[k]):=by
    rw [hk1']
    unfold rowsB
    rw [List.take_succ_eq_append_getElem hlt,List.flatMap_append]
    simp [rowB]
   rw [e]
   simpa only [List.append_assoc] using hW3
  ·simp [intOf]; omega
 ·obtain rfl:k = ps.length:=by omega
  simp -dsimp [go_sem]
  rw [List.take_length] at hW
  exact ⟨F',hW,hG,hK⟩
end Go.Proofs.YtellahclbhfdiaaGreatDoor
