/-
  box.Decode walked. By the session itself. Numbers and rows read back: plain laws. By the session itself. BoxBack walked: a box that may be is read as it was. By the session itself.
-/
import Derived.Test.YtellahclbhfdiaaGreatDoorZ11
import Derived.Test.YtellahclbhfdiaaGreatDoorZ08
namespace Go.Proofs.YtellahclbhfdiaaGreatDoor
set_option linter.unusedSimpArgs false
set_option linter.unusedVariables false
set_option maxRecDepth 100000
set_option maxHeartbeats 2000000
open Go.Vc Go.RowKit
theorem bdecode_spec (p:List UInt8) (A:Option Addr) (c:Nat) (w:World) (hr:Rd w A (p.map u8)) (hl:p.length ≤ 1000000000) :
  Cal Tryz.prog 209 #[.slice A p.length c] w fun v w' => DecR v w' p w.heap.size ∧ Nw w w':=by
 have eread:bxRead p = (⟨⟨(bytL p false).1.toArray⟩,(numL (bytL p false).2.1 (bytL p false).2.2).1,(nm2 (bytL p false).2.1 (bytL p false).2.2).1,(bxL (nm3 (bytL p false).2.1 (bytL p false).2.2).1 (nm3 (bytL p false).2.1 (bytL p false).2.2).2.1 (nm3 (bytL p false).2.1 (bytL p false).2.2).2.2 []).1⟩,
  (bxL (nm3 (bytL p false).2.1 (bytL p false).2.2).1 (nm3 (bytL p false).2.1 (bytL p false).2.2).2.1 (nm3 (bytL p false).2.1 (bytL p false).2.2).2.2 []).2.1,(bxL (nm3 (bytL p false).2.1 (bytL p false).2.2).1 (nm3 (bytL p false).2.1 (bytL p false).2.2).2.1 (nm3 (bytL p false).2.1 (bytL p false).2.2).2.2 []).2.2):=rfl
 have hsz1:=bytL_size p false
 have hsz3:=nm3_len (bytL p false).2.1 (bytL p false).2.2
 refine enter Tryz.mixed Tryz.func209 rfl (by kernel_rfl) ?_
 have k0:Nw w (w.alloc (.cells #[.string ⟨#[]⟩,i64 0,i64 0,.slice none 0 0] 111)):=(Kp.refl _ _).alloc _
 have hr0:=Blk.new w 111 #[.string ⟨#[]⟩,i64 0,i64 0,.slice none 0 0]
 obtain ⟨r0,hr0'⟩:∃ r0,r0 = w.heap.size:=⟨_,rfl⟩
 simp -dsimp [go_sem]
 rw [← hr0'] at hr0 ⊢
 generalize w.alloc (.cells #[.string ⟨#[]⟩,i64 0,i64 0,.slice none 0 0] 111) = wa at *
 have hr0s:=hr0.lt
 refine call (newReader_spec A c p wa (hr.nw k0) (by omega)) ?_
 rintro v w1 ⟨g,rfl,hgw,⟨F,hRd,hF⟩,hk1⟩
 simp -dsimp [go_sem]
 refine call (rBytes_spec g p false F w1 hRd (by omega)) ?_
 rintro v w2 ⟨hB2,hRd2,hk2⟩
 have hgF:=hRd.in_
 have hg1:=(hF g hgF).2
 have n1:=k0.nw hk1
 have n2:Nw w w2:=n1.at_ hk2 fun k (e:k = g) => by omega
 have hr2:=(hr0.nw hk1).kp hk2 fun (e:r0 = g) => by omega
 obtain ⟨X,xc,rfl,hoX,hX⟩:=id hB2
 have hcv:convR Tryz.prog 23 9 (.slice X (bytL p false).1.length xc) w2 = .ok (.string ⟨(bytL p false).1.toArray⟩) w2:=conv_str (e:=5) (by kernel_rfl) (by kernel_rfl) (by kernel_rfl) hoX.rd
 generalize (bytL p false).2.1 = l1 at *
 generalize (bytL p false).2.2 = bad1 at *
 obtain ⟨nb,hnb⟩:∃ nb,nb = (bytL p false).1:=⟨_,rfl⟩
 rw [← hnb] at hcv hsz1 eread ⊢
 have ll1:=numL_len l1 bad1
 obtain ⟨val,hval⟩:∃ val,val = (numL l1 bad1).1:=⟨_,rfl⟩
 obtain ⟨nxt,hnxt⟩:∃ nxt,nxt = (nm2 l1 bad1).1:=⟨_,rfl⟩
 obtain ⟨n,hn⟩:∃ n,n = (nm3 l1 bad1).1:=⟨_,rfl⟩
 have hnle:n ≤ 4611686018427387904:=by
  rw [hn]
  unfold nm3 numL
  split
  ·rename_i u r h; exact (takeN_len _ _ _ _ _ h).2
  ·simp
 simp -dsimp [go_sem,hcv]
 simp [go_sem]
 have a1:Nw w2 (w2.alloc (.cells #[.string ⟨nb.toArray⟩,i64 0,i64 0,.slice none 0 0] 111)):=(Kp.refl _ _).alloc _
 have hx0:=Blk.new w2 111 #[.string ⟨nb.toArray⟩,i64 0,i64 0,.slice none 0 0]
 have sx:(w2.alloc (.cells #[.string ⟨nb.toArray⟩,i64 0,i64 0,.slice none 0 0] 111)).heap.size = w2.heap.size + 1:=by simp
 obtain ⟨x,hx⟩:∃ x,x = w2.heap.size:=⟨_,rfl⟩
 rw [← hx] at hx0 sx ⊢
 generalize w2.alloc (.cells #[.string ⟨nb.toArray⟩,i64 0,i64 0,.slice none 0 0] 111) = w3 at *
 have a2:Nw w3 (w3.alloc (.cells #[i64 0] 3)):=(Kp.refl _ _).alloc _
 have hz0:=Blk.new w3 3 #[i64 0]
 have sz:(w3.alloc (.cells #[i64 0] 3)).heap.size = w3.heap.size + 1:=by simp
 rw [sx] at hz0 sz
 obtain ⟨z,hz⟩:∃ z,z = x + 1:=⟨_,rfl⟩
 rw [← hz] at hz0 sz sx ⊢
 generalize w3.alloc (.cells #[i64 0] 3) = w4 at *
 have a3:Nw w4 (w4.alloc (.cells #[.pointer (some ⟨x,1,none⟩),.pointer (some ⟨x,2,none⟩),.pointer (some ⟨z,0,none⟩)] 82)):=(Kp.refl _ _).alloc _
 have hs0:=Blk.new w4 82 #[.pointer (some ⟨x,1,none⟩),.pointer (some ⟨x,2,none⟩),.pointer (some ⟨z,0,none⟩)]
 have ss:(w4.alloc (.cells #[.pointer (some ⟨x,1,none⟩),.pointer (some ⟨x,2,none⟩),.pointer (some ⟨z,0,none⟩)] 82)).heap.size = w4.heap.size + 1:=by simp
 rw [sz] at hs0 ss
 obtain ⟨s,hs⟩:∃ s,s = z + 1:=⟨_,rfl⟩
 rw [← hs] at hs0 ss sz ⊢
 have hx5:=(hx0.nw a2).nw a3
 have hz5:=hz0.nw a3
 have n5:=((n2.nw a1).nw a2).nw a3
 have hRd5:=((hRd2.nw a1).nw a2).nw a3
 have hr5:=((hr2.nw a1).nw a2).nw a3
 generalize w4.alloc (.cells #[.pointer (some ⟨x,1,none⟩),.pointer (some ⟨x,2,none⟩),.pointer (some ⟨z,0,none⟩)] 82) = w5 at *
 have hw12:w1.heap.size ≤ x:=by have:=hk2.size; omega
 have hFlt:∀ k,F k → k < x:=fun k hk => by have:=(hF k hk).2; omega
 have hgx:g < x:=hFlt g hgF
 have hr0x:r0 < g:=by omega
 let Q:Nat → World → Prop:=fun i w' => Blk w' x 111 #[.string ⟨nb.toArray⟩,i64 (if 0 < i then (val:Int) else 0),i64 (if 1 < i then (nxt:Int) else 0),.slice none 0 0] ∧ Blk w' z 3 #[i64 (if 2 < i then (n:Int) else 0)]
 refine call (nums_gen g s x 1 x 2 z 0 82 l1 bad1 F (fun k => k = x ∨ k = z) w5 Q hRd5 (by omega) hs0 (fun e => by have:=hFlt s e; omega) (by omega) (fun i hi e => by have:=hFlt i hi; omega) (.inl rfl) (.inl rfl) (.inr rfl) ⟨hx5,hz5⟩
  (fun i u1 u2 hq hk => ⟨hq.1.kp hk fun (e:x = g) => by omega,hq.2.kp hk fun (e:z = g) => by omega⟩)
  (fun u1 hq => ⟨⟨_,hq.1.cell 1⟩,hq.1.frozen 1,by have:=hq.1.set 1 (i64 (numL l1 bad1).1); simpa [hval] using this,hq.2.kp ((Kp.refl (At x) _).setCell_at _ _) fun (e:z = x) => by omega⟩)
  (fun u1 hq => ⟨⟨_,hq.1.cell 2⟩,hq.1.frozen 2,by have:=hq.1.set 2 (i64 (nm2 l1 bad1).1); simpa [hnxt] using this,hq.2.kp ((Kp.refl (At x) _).setCell_at _ _) fun (e:z = x) => by omega⟩)
  (fun u1 hq => ⟨⟨_,hq.2.cell 0⟩,hq.2.frozen 0,hq.1.kp ((Kp.refl (At z) _).setCell_at _ _) fun (e:x = z) => by omega,by have:=hq.2.set 0 (i64 (nm3 l1 bad1).1); simpa [hn] using this⟩)) ?_
 rintro v w6 ⟨rfl,⟨hx6,hz6⟩,hRd6,hk6⟩
 have hx6:Blk w6 x 111 #[.string ⟨nb.toArray⟩,i64 val,i64 nxt,.slice none 0 0]:=hx6
 have hz6:Blk w6 z 3 #[i64 n]:=hz6
 clear Q
 have n6:Nw w w6:=n5.at_ hk6 fun k hk => by omega
 have hr6:=hr5.kp hk6 fun e => by omega
 rw [← hval,← hnxt,← hn] at eread
 generalize (nm3 l1 bad1).2.1 = l2 at *
 generalize (nm3 l1 bad1).2.2 = bad2 at *
 have s6:s < w6.heap.size:=by have:=hk6.size; omega
 obtain ⟨B0,hB0⟩:∃ B0,B0 = s + 1:=⟨_,rfl⟩
 simp -dsimp [go_sem]
 refine loop [7,19,20,21,22,23,24,25,26,27,28,29,30,31,32,33,34,35,36,37,38,39,40,41,42] (by kernel_rfl)
  (fun f w' => Box (∃ (k:Nat) (L:List Msg) (l:List UInt8) (bad:Bool) (vL:Value),Blk w' x 111 #[.string ⟨nb.toArray⟩,i64 val,i64 nxt,vL] ∧ Blk w' z 3 #[i64 k] ∧ OL w' vL L B0 ∧ Rdr w' g l bad F ∧ bxL n l2 bad2 [] = bxL k l bad L ∧ k ≤ n ∧
   L.length ≤ p.length + 1 ∧ (bad = false → L.length + l.length ≤ p.length) ∧ l.length ≤ p.length ∧ (∀ m ∈ L,m.body.length ≤ p.length) ∧ Nw w w' ∧ w6.heap.size ≤ w'.heap.size ∧ Blk w' r0 111 #[.string ⟨#[]⟩,i64 0,i64 0,.slice none 0 0])) (fun _ w' => (intOf ((w'.cell? ⟨z,0,none⟩).getD (i64 0))).toNat)
  ⟨n,[],l2,bad2,_,hx6,hz6,OL.nil _ _,hRd6,rfl,Nat.le_refl _,by simp,fun _ => by simp; omega,by omega,by simp,n6,Nat.le_refl _,hr6⟩ ?_
 rintro f w7 ⟨k,L,l,bad,vL,hx7,hz7,hO7,hRd7,hE,hkn,hL1,hL2,hL3,hL4,n7,hw67,hr7⟩
 have z0:=hz7.cell 0
 by_cases hk0:0 < k
 ·cases bad with
  | true =>
   simp -dsimp [go_sem,z0,hk0]
   refine call (good_spec g l true F w7 hRd7) ?_
   rintro v w8 ⟨rfl,rfl⟩
   have hE:bxL n l2 bad2 [] = (L,l,true):=by
    rw [hE]
    cases k with
    | zero => rfl
    | succ k => simp [bxL]
   simp -dsimp [go_sem]
   have er:bxRead p = (⟨⟨nb.toArray⟩,val,nxt,L⟩,l,true):=by rw [eread,hE]
   have hx0c:=hx7.cell 0
   have hx1c:=hx7.cell 1
   have hx2c:=hx7.cell 2
   have hx3c:=hx7.cell 3
   have r0c:=hr7.cell 0
   have r1c:=hr7.cell 1
   have r2c:=hr7.cell 2
   have r3c:=hr7.cell 3
   have r0f:=hr7.frozen 0
   have r1f:=hr7.frozen 1
   have r2f:=hr7.frozen 2
   have r3f:=hr7.frozen 3
   obtain ⟨q5,A5,d5,rfl,hq5,ho5,hA5,hd5⟩:=id hO7
   refine call (whole_spec g l true F w7 hRd7) ?_
   rintro v w8 ⟨rfl,rfl⟩
   have hset:∀ a b c d:Value,Kp (At r0) w7 ((((w7.setCell ⟨r0,0,none⟩ a).setCell ⟨r0,1,none⟩ b).setCell ⟨r0,2,none⟩ c).setCell ⟨r0,3,none⟩ d):=fun a b c d => ((((Kp.refl _ _).setCell_at _ _).setCell_at _ _).setCell_at _ _).setCell_at _ _
   cases hwh:(!true && l.isEmpty) with
   | false =>
    have hok:bxOk p = false:=by unfold bxOk; rw [er]; simp only [hwh]; rfl
    simp -dsimp [go_sem,r0c,r1c,r2c,r3c,r0f,r1f,r2f,r3f]
    exact ⟨.inr ⟨hok,rfl⟩,n7.at_ (hset _ _ _ _) fun k (e:k = r0) => by omega⟩
   | true =>
    simp -dsimp [go_sem,hx0c,hx1c,hx2c,hx3c]
    have hOB:OB w7 (.agg #[.string ⟨nb.toArray⟩,i64 val,i64 nxt,.slice A5 L.length d5]) ⟨⟨nb.toArray⟩,val,nxt,L⟩ B0:=⟨_,rfl,hO7⟩
    refine call (bis_spec _ _ _ w7 hOB.rb (by show nb.toArray.size ≤ _; rw [List.size_toArray]; omega) (by show L.length ≤ _; omega)) ?_
    rintro v w9 ⟨rfl,hk9⟩
    have hokk:bxOk p = isB ⟨⟨nb.toArray⟩,val,nxt,L⟩:=by unfold bxOk; rw [er]; simp only [hwh]; rfl
    have hr9:=hr7.nw hk9
    have hx9:=hx7.nw hk9
    have n9:=n7.nw hk9
    have hx0c:=hx9.cell 0
    have hx1c:=hx9.cell 1
    have hx2c:=hx9.cell 2
    have hx3c:=hx9.cell 3
    have r0c:=hr9.cell 0
    have r1c:=hr9.cell 1
    have r2c:=hr9.cell 2
    have r3c:=hr9.cell 3
    have r0f:=hr9.frozen 0
    have r1f:=hr9.frozen 1
    have r2f:=hr9.frozen 2
    have r3f:=hr9.frozen 3
    have hset:∀ a b c d:Value,Kp (At r0) w9 ((((w9.setCell ⟨r0,0,none⟩ a).setCell ⟨r0,1,none⟩ b).setCell ⟨r0,2,none⟩ c).setCell ⟨r0,3,none⟩ d):=fun a b c d => ((((Kp.refl _ _).setCell_at _ _).setCell_at _ _).setCell_at _ _).setCell_at _ _
    cases hib:isB ⟨⟨nb.toArray⟩,val,nxt,L⟩ with
    | false =>
     rw [hib] at hokk
     simp -dsimp [go_sem,r0c,r1c,r2c,r3c,r0f,r1f,r2f,r3f]
     exact ⟨.inr ⟨hokk,rfl⟩,n9.at_ (hset _ _ _ _) fun k (e:k = r0) => by omega⟩
    | true =>
     rw [hib] at hokk
     simp -dsimp [go_sem,hx0c,hx1c,hx2c,hx3c,r0c,r1c,r2c,r3c,r0f,r1f,r2f,r3f]
     refine ⟨.inl ⟨hokk,_,rfl,?_⟩,n9.at_ (hset _ _ _ _) fun k (e:k = r0) => by omega⟩
     rw [er]
     exact ((hOB.nw hk9).kp (hset _ _ _ _) fun i hi _ (e:i = r0) => by omega).mono (by omega)
  | false =>
   simp -dsimp [go_sem,z0,hk0]
   refine call (good_spec g l false F w7 hRd7) ?_
   rintro v w8 ⟨rfl,rfl⟩
   obtain ⟨k1,hk1e⟩:∃ k1,k = k1 + 1:=⟨k - 1,by omega⟩
   have hwk:IntKind.i64.wrap ((k:Int) - 1) = (k1:Int):=by rw [w64 (by omega) (by omega)]; omega
   have hE1:bxL k l false L = bxL k1 (msgL l false).2.1 (msgL l false).2.2 (L ++ [(msgL l false).1]):=by rw [hk1e]; simp [bxL]
   rw [hE1] at hE
   have hmu:=@msgL_used l false
   have hms:=msgL_size l false
   have em:msgL l false = (⟨(numL l false).1,(nm2 l false).1,(nm3 l false).1,(bytL (nm3 l false).2.1 (nm3 l false).2.2).1⟩,(bytL (nm3 l false).2.1 (nm3 l false).2.2).2.1,(bytL (nm3 l false).2.1 (nm3 l false).2.2).2.2):=rfl
   have ll2:=nm3_len l false
   simp -dsimp [go_sem,z0]
   have b1:Nw w7 (w7.alloc (.cells #[i64 0,i64 0,i64 0,.slice none 0 0] 186)):=(Kp.refl _ _).alloc _
   have hy0:=Blk.new w7 186 #[i64 0,i64 0,i64 0,.slice none 0 0]
   have sy:(w7.alloc (.cells #[i64 0,i64 0,i64 0,.slice none 0 0] 186)).heap.size = w7.heap.size + 1:=by simp
   obtain ⟨y,hy⟩:∃ y,y = w7.heap.size:=⟨_,rfl⟩
   rw [← hy] at hy0 sy ⊢
   generalize w7.alloc (.cells #[i64 0,i64 0,i64 0,.slice none 0 0] 186) = w8 at *
   have b2:Nw w8 (w8.alloc (.cells #[.pointer (some ⟨y,0,none⟩),.pointer (some ⟨y,1,none⟩),.pointer (some ⟨y,2,none⟩)] 82)):=(Kp.refl _ _).alloc _
   have ht0:=Blk.new w8 82 #[.pointer (some ⟨y,0,none⟩),.pointer (some ⟨y,1,none⟩),.pointer (some ⟨y,2,none⟩)]
   rw [sy] at ht0
   have hy9:=hy0.nw b2
   have n79:=b1.nw b2
   have hRd9:=hRd7.nw n79
   generalize w8.alloc (.cells #[.pointer (some ⟨y,0,none⟩),.pointer (some ⟨y,1,none⟩),.pointer (some ⟨y,2,none⟩)] 82) = w9 at *
   have hxy:s < y:=by omega
   let Q:Nat → World → Prop:=fun i w' => Blk w' y 186 #[i64 (if 0 < i then ((numL l false).1:Int) else 0),i64 (if 1 < i then ((nm2 l false).1:Int) else 0),i64 (if 2 < i then ((nm3 l false).1:Int) else 0),.slice none 0 0]
   refine call (nums_gen g (y + 1) y 0 y 1 y 2 82 l false F (At y) w9 Q hRd9 (by omega) ht0 (fun e => by have:=hFlt (y + 1) e; omega) (fun (e:y + 1 = y) => by omega) (fun i hi (e:i = y) => by have:=hFlt i hi; omega) rfl rfl rfl hy9
    (fun i u1 u2 hq hk => Blk.kp hq hk fun (e:y = g) => by omega)
    (fun u1 hq => ⟨⟨_,Blk.cell hq 0⟩,Blk.frozen hq 0,by have:=Blk.set hq 0 (i64 (numL l false).1); simpa [Q] using this⟩)
    (fun u1 hq => ⟨⟨_,Blk.cell hq 1⟩,Blk.frozen hq 1,by have:=Blk.set hq 1 (i64 (nm2 l false).1); simpa [Q] using this⟩)
    (fun u1 hq => ⟨⟨_,Blk.cell hq 2⟩,Blk.frozen hq 2,by have:=Blk.set hq 2 (i64 (nm3 l false).1); simpa [Q] using this⟩)) ?_
   rintro v w10 ⟨rfl,hy10,hRd10,hk10⟩
   have hy10:Blk w10 y 186 #[i64 (numL l false).1,i64 (nm2 l false).1,i64 (nm3 l false).1,.slice none 0 0]:=hy10
   simp -dsimp [go_sem]
   refine call (rBytes_spec g _ _ F w10 hRd10 (by omega)) ?_
   rintro v w11 ⟨hB11,hRd11,hk11⟩
   have hy11:=hy10.kp hk11 fun (e:y = g) => by omega
   have y3:=hy11.cell 3
   have f3:=hy11.frozen 3
   obtain ⟨Y,yc,rfl,hoY,hY⟩:=id hB11
   obtain ⟨M,hM⟩:∃ M,M = msgL l false:=⟨_,rfl⟩
   rw [← hM] at hE hmu hms em
   obtain ⟨m,l',bad'⟩:=M
   obtain ⟨u0,fl,dt,bd⟩:=m
   injection em with em1 em2
   injection em1 with e1 e2 e3 e4
   injection em2 with e5 e6
   rw [← e1,← e2,← e3] at hy11
   rw [← e5,← e6] at hRd11
   rw [← e4] at hoY hB11 ⊢
   simp only at hE hmu hms
   have hset:=hy11.set 3 (.slice Y bd.length yc)
   have ks:Kp (At y) w11 (w11.setCell ⟨y,3,none⟩ (.slice Y bd.length yc)):=(Kp.refl _ _).setCell_at _ _
   have hy12:Blk (w11.setCell ⟨y,3,none⟩ (.slice Y bd.length yc)) y 186 #[i64 u0,i64 fl,i64 dt,.slice Y bd.length yc]:=by simpa using hset
   have hyw10:y < w10.heap.size:=hy10.lt
   have hB12:Bs (w11.setCell ⟨y,3,none⟩ (.slice Y bd.length yc)) (.slice Y bd.length yc) bd w10.heap.size:=hB11.kp ks fun i hi _ (e:i = y) => by omega
   have kk:Kp (fun k => k = g) w7 (w11.setCell ⟨y,3,none⟩ (.slice Y bd.length yc)):=(((Nw.kp n79 (fun k => k = g)).trans hk10 fun k hk e => e.elim id fun (e:k = y) => by omega).trans hk11 fun k _ (e:k = g) => e).trans ks fun k hk (e:k = y) => by omega
   have kk11:Kp (fun k => k = g) w7 w11:=((Nw.kp n79 (fun k => k = g)).trans hk10 fun k hk e => e.elim id fun (e:k = y) => by omega).trans hk11 fun k _ (e:k = g) => e
   have hx11:=hx7.kp kk11 fun (e:x = g) => by omega
   have x311:=hx11.cell 3
   have hRd12:=hRd11.kp_ ks fun i hi (e:i = y) => by have:=hFlt i hi; omega
   simp -dsimp [go_sem,y3,f3]
   generalize w11.setCell ⟨y,3,none⟩ (.slice Y bd.length yc) = w12 at *
   have y0:=hy12.cell 0
   have y1:=hy12.cell 1
   have y2:=hy12.cell 2
   have y3:=hy12.cell 3
   obtain ⟨q5,A5,d5,rfl,hq5,ho5,hA5,hd5⟩:=hO7
   have hql5:q5.length = L.length:=by rw [← hq5,List.length_map]
   have hx12:=hx7.kp kk fun (e:x = g) => by omega
   have hz12:=hz7.kp kk fun (e:z = g) => by omega
   have x3:=hx12.cell 3
   have hA5lt:=fun a ha => ho5.lt a ha
   have ho12:=ho5.kp kk fun a ha (e:a.block = g) => by have:=hA5 a ha; omega
   have hd12:∀ p ∈ q5,BsA w12 p.2 p.1.body B0 A5:=fun p hp => (hd5 p hp).kp kk fun i hi _ _ (e:i = g) => by omega
   simp -dsimp [go_sem,x3,x311,y0,y1,y2,y3]
   have ka:Nw w12 (w12.alloc (.cells #[i64 u0,i64 fl,i64 dt,.slice Y bd.length yc] 186)):=(Kp.refl _ _).alloc _
   refine app Smsg (xs:=mq q5) (n:=L.length) (ho12.nw ka) (ys:=mq [(⟨u0,fl,dt,bd⟩,.slice Y bd.length yc)]) (Rd.fresh rfl rfl) (m:=1) rfl (fun u hu => by
    simp [mq] at hu
    rcases hu with rfl | rfl | rfl | rfl
    ·rfl
    ·rfl
    ·rfl
    ·cases Y <;> rfl) (by omega) (by omega) ?_
   intro A7 d7 w13 ho13 hk13 hAA
   rw [← mq_app] at ho13
   have hmv:A7 = A5 ∨ ∃ a,A7 = some a ∧ (w12.alloc (.cells #[i64 u0,i64 fl,i64 dt,.slice Y bd.length yc] 186)).heap.size ≤ a.block:=by
    rcases hAA with h | ⟨h,_⟩
    ·exact .inl h
    ·exact .inr ⟨_,h,Nat.le_refl _⟩
   have hB0w:B0 ≤ w7.heap.size:=by omega
   have hw712:w7.heap.size ≤ w12.heap.size:=kk.size
   have hw710:w7.heap.size ≤ w10.heap.size:=by omega
   have hblA:∀ k,blk A5 k → B0 ≤ k:=fun k hk => by
    obtain ⟨a,rfl,rfl⟩:=blk_of hk
    exact hA5 a rfl
   obtain ⟨n13,hn13⟩:∃ n13,n13 = L.length + 1:=⟨_,rfl⟩
   have hO13:OL w13 (.slice A7 n13 d7) (L ++ [⟨u0,fl,dt,bd⟩]) B0:=by
    refine ⟨q5 ++ [(⟨u0,fl,dt,bd⟩,.slice Y bd.length yc)],A7,d7,by rw [List.length_append]; simp [hn13],by simp [hq5],by rw [List.length_append]; exact ho13,fun a ha => ?_,fun p hp => ?_⟩
    ·rcases hmv with rfl | ⟨a',rfl,h⟩
     ·exact hA5 a ha
     ·cases ha
      exact Nat.le_trans (Nat.le_trans hB0w (Nat.le_trans hw712 ka.size)) h
    ·rcases List.mem_append.1 hp with hp | hp
     ·exact ((hd12 p hp).nw ka).grown hk13 hmv
     ·rw [List.mem_singleton.1 hp]
      exact ((BsA.of hB12 (Nat.le_trans hB0w hw710) fun a ha => Nat.lt_of_lt_of_le (hA5lt a ha) hw710).nw ka).grown hk13 hmv
   have kx:Kp (blk A5) w12 w13:=(Nw.kp ka _).trans hk13 fun _ _ h => h
   have hx13:=hx12.kp kx fun e => by have:=hblA x e; omega
   have hz13:=hz12.kp kx fun e => by have:=hblA z e; omega
   have hRd13:=hRd12.kp_ kx fun i hi e => by have:=hblA i e; have:=hFlt i hi; omega
   have x33:=hx13.cell 3
   have fx3:=hx13.frozen 3
   have hz13c:=hz13.cell 0
   have hzf:=hz13.frozen 0
   have n12:Nw w w12:=n7.at_ kk fun k (e:k = g) => by omega
   have n13':Nw w w13:=n12.at_ kx fun k hk => by have:=hblA k hk; omega
   have hr13:=(hr7.kp kk fun (e:r0 = g) => by omega).kp kx fun e => by have:=hblA r0 e; omega
   have hw613:w6.heap.size ≤ w13.heap.size:=by have:=kx.size; omega
   rw [← hn13]
   simp -dsimp [go_sem,x33,fx3]
   have kx2:Kp (At x) w13 (w13.setCell ⟨x,3,none⟩ (.slice A7 n13 d7)):=(Kp.refl _ _).setCell_at _ _
   have hx14:Blk (w13.setCell ⟨x,3,none⟩ (.slice A7 n13 d7)) x 111 #[.string ⟨nb.toArray⟩,i64 val,i64 nxt,.slice A7 n13 d7]:=by simpa using hx13.set 3 (.slice A7 n13 d7)
   have hz14:=hz13.kp kx2 fun (e:z = x) => by omega
   have hO14:=hO13.kp kx2 fun i hi _ (e:i = x) => by omega
   have hRd14:=hRd13.kp_ kx2 fun i hi (e:i = x) => by have:=hFlt i hi; omega
   have n14:=n13'.at_ kx2 fun k (e:k = x) => by omega
   have hr14:=hr13.kp kx2 fun (e:r0 = x) => by omega
   have hw614:w6.heap.size ≤ _:=Nat.le_trans hw613 kx2.size
   generalize w13.setCell ⟨x,3,none⟩ (.slice A7 n13 d7) = w14 at *
   have hz14c:=hz14.cell 0
   have hzf4:=hz14.frozen 0
   have kz2:Kp (At z) w14 (w14.setCell ⟨z,0,none⟩ (i64 k1)):=(Kp.refl _ _).setCell_at _ _
   have hz15:Blk (w14.setCell ⟨z,0,none⟩ (i64 k1)) z 3 #[i64 k1]:=by simpa using hz14.set 0 (i64 k1)
   have hx15:=hx14.kp kz2 fun (e:x = z) => by omega
   have hO15:=hO14.kp kz2 fun i hi _ (e:i = z) => by omega
   have hRd15:=hRd14.kp_ kz2 fun i hi (e:i = z) => by have:=hFlt i hi; omega
   have n15:=n14.at_ kz2 fun k (e:k = z) => by omega
   have hr15:=hr14.kp kz2 fun (e:r0 = z) => by omega
   have hz15c:=hz15.cell 0
   simp -dsimp [go_sem,hz13c,hz14c,hzf,hzf4,hwk]
   refine ⟨⟨k1,L ++ [⟨u0,fl,dt,bd⟩],l',bad',_,hx15,hz15,hO15,hRd15,hE,by omega,?_,fun e => ?_,by omega,fun m hm => ?_,n15,Nat.le_trans hw614 kz2.size,hr15⟩,?_⟩
   ·have:=hL2 rfl
    rw [List.length_append,List.length_singleton]; omega
   ·have:=hL2 rfl
    have:=hmu e
    rw [List.length_append,List.length_singleton]; omega
   ·rcases List.mem_append.1 hm with hm | hm
    ·exact hL4 m hm
    ·rw [List.mem_singleton.1 hm]
     simp only; omega
   ·simp [hz15c,z0,intOf]
    omega
 ·obtain rfl:k = 0:=by omega
  have hE:bxL n l2 bad2 [] = (L,l,bad):=hE
  simp -dsimp [go_sem,z0]
  have er:bxRead p = (⟨⟨nb.toArray⟩,val,nxt,L⟩,l,bad):=by rw [eread,hE]
  have hx0c:=hx7.cell 0
  have hx1c:=hx7.cell 1
  have hx2c:=hx7.cell 2
  have hx3c:=hx7.cell 3
  have r0c:=hr7.cell 0
  have r1c:=hr7.cell 1
  have r2c:=hr7.cell 2
  have r3c:=hr7.cell 3
  have r0f:=hr7.frozen 0
  have r1f:=hr7.frozen 1
  have r2f:=hr7.frozen 2
  have r3f:=hr7.frozen 3
  obtain ⟨q5,A5,d5,rfl,hq5,ho5,hA5,hd5⟩:=id hO7
  refine call (whole_spec g l bad F w7 hRd7) ?_
  rintro v w8 ⟨rfl,rfl⟩
  have hset:∀ a b c d:Value,Kp (At r0) w7 ((((w7.setCell ⟨r0,0,none⟩ a).setCell ⟨r0,1,none⟩ b).setCell ⟨r0,2,none⟩ c).setCell ⟨r0,3,none⟩ d):=fun a b c d => ((((Kp.refl _ _).setCell_at _ _).setCell_at _ _).setCell_at _ _).setCell_at _ _
  cases hwh:(!bad && l.isEmpty) with
  | false =>
   have hok:bxOk p = false:=by unfold bxOk; rw [er]; simp only [hwh]; rfl
   simp -dsimp [go_sem,r0c,r1c,r2c,r3c,r0f,r1f,r2f,r3f]
   exact ⟨.inr ⟨hok,rfl⟩,n7.at_ (hset _ _ _ _) fun k (e:k = r0) => by omega⟩
  | true =>
   simp -dsimp [go_sem,hx0c,hx1c,hx2c,hx3c]
   have hOB:OB w7 (.agg #[.string ⟨nb.toArray⟩,i64 val,i64 nxt,.slice A5 L.length d5]) ⟨⟨nb.toArray⟩,val,nxt,L⟩ B0:=⟨_,rfl,hO7⟩
   refine call (bis_spec _ _ _ w7 hOB.rb (by show nb.toArray.size ≤ _; rw [List.size_toArray]; omega) (by show L.length ≤ _; omega)) ?_
   rintro v w9 ⟨rfl,hk9⟩
   have hokk:bxOk p = isB ⟨⟨nb.toArray⟩,val,nxt,L⟩:=by unfold bxOk; rw [er]; simp only [hwh]; rfl
   have hr9:=hr7.nw hk9
   have hx9:=hx7.nw hk9
   have n9:=n7.nw hk9
   have hx0c:=hx9.cell 0
   have hx1c:=hx9.cell 1
   have hx2c:=hx9.cell 2
   have hx3c:=hx9.cell 3
   have r0c:=hr9.cell 0
   have r1c:=hr9.cell 1
   have r2c:=hr9.cell 2
   have r3c:=hr9.cell 3
   have r0f:=hr9.frozen 0
   have r1f:=hr9.frozen 1
   have r2f:=hr9.frozen 2
   have r3f:=hr9.frozen 3
   have hset:∀ a b c d:Value,Kp (At r0) w9 ((((w9.setCell ⟨r0,0,none⟩ a).setCell ⟨r0,1,none⟩ b).setCell ⟨r0,2,none⟩ c).setCell ⟨r0,3,none⟩ d):=fun a b c d => ((((Kp.refl _ _).setCell_at _ _).setCell_at _ _).setCell_at _ _).setCell_at _ _
   cases hib:isB ⟨⟨nb.toArray⟩,val,nxt,L⟩ with
   | false =>
    rw [hib] at hokk
    simp -dsimp [go_sem,r0c,r1c,r2c,r3c,r0f,r1f,r2f,r3f]
    exact ⟨.inr ⟨hokk,rfl⟩,n9.at_ (hset _ _ _ _) fun k (e:k = r0) => by omega⟩
   | true =>
    rw [hib] at hokk
    simp -dsimp [go_sem,hx0c,hx1c,hx2c,hx3c,r0c,r1c,r2c,r3c,r0f,r1f,r2f,r3f]
    refine ⟨.inl ⟨hokk,_,rfl,?_⟩,n9.at_ (hset _ _ _ _) fun k (e:k = r0) => by omega⟩
    rw [er]
    exact ((hOB.nw hk9).kp (hset _ _ _ _) fun i hi _ (e:i = r0) => by omega).mono (by omega)
theorem takeN_numB:∀ (n i u:Nat) (rest:List UInt8),i + (numB n).length ≤ 9 → (0 < i → 0 < n) → u + n * 2 ^ (7 * i) ≤ 4611686018427387904 → takeN i u (numB n ++ rest) = some (u + n * 2 ^ (7 * i),rest):=by
 intro n
 induction n using Nat.strongRecOn with
 | _ n ih =>
  intro i u rest hi h0 hu
  by_cases h:n < 128
  ·rw [numB_small h] at hi ⊢
   have e:(UInt8.ofNat n).toNat = n:=by simp; omega
   have e2:n % 128 = n:=by omega
   simp only [List.cons_append,List.nil_append,takeN,e,e2]
   rw [if_neg (by simp at hi; omega),if_pos h,if_neg (by omega)]
  ·rw [numB_big h] at hi ⊢
   have e:(UInt8.ofNat (n % 128 + 128)).toNat = n % 128 + 128:=by simp; omega
   have e2:(n % 128 + 128) % 128 = n % 128:=by omega
   have hs:n % 128 * 2 ^ (7 * i) + n / 128 * 2 ^ (7 * (i + 1)) = n * 2 ^ (7 * i):=by
    rw [show 7 * (i + 1) = 7 * i + 7 by omega,Nat.pow_add,show (2:Nat) ^ 7 = 128 from rfl,Nat.mul_comm (2 ^ (7 * i)) 128,← Nat.mul_assoc,← Nat.add_mul,Nat.mod_add_div']
   rw [List.length_cons] at hi
   simp only [List.cons_append,takeN,e,e2]
   rw [if_neg (by omega),if_neg (by omega),ih (n / 128) (by omega) (i + 1) _ rest (by omega) (by omega) (by omega),Nat.add_assoc,hs]
theorem numL_numB (n:Nat) (rest:List UInt8) (bad:Bool) (h:n ≤ 4611686018427387904):numL (numB n ++ rest) bad = (n,rest,bad):=by
 have:=takeN_numB n 0 0 rest (by have:=numB_len9 h; omega) (by omega) (by simpa using h)
 rw [show 0 + n * 2 ^ (7 * 0) = n by simp] at this
 unfold numL
 rw [this]
theorem bytL_rowB (p rest:List UInt8) (hp:p.length ≤ 4611686018427387904):bytL (rowB p ++ rest) false = (p,rest,false):=by
 unfold bytL rowB
 rw [List.append_assoc,numL_numB _ _ _ hp]
 unfold rawL
 rw [if_pos ⟨by omega,by rw [List.length_append]; omega⟩]
 simp
theorem clamp_of {v:Int} (h0:0 ≤ v) (h1:v ≤ 4611686018427387904):(clampN v:Int) = v:=by unfold clampN; omega
theorem msgL_enc (m:Msg) (rest:List UInt8) (h1:0 ≤ m.uid ∧ m.uid ≤ 4611686018427387904) (h2:0 ≤ m.flags ∧ m.flags ≤ 4611686018427387904) (h3:0 ≤ m.date ∧ m.date ≤ 4611686018427387904) (h4:m.body.length ≤ 4611686018427387904):msgL (encM m ++ rest) false = (m,rest,false):=by
 have e:encM m ++ rest = numB (clampN m.uid) ++ (numB (clampN m.flags) ++ (numB (clampN m.date) ++ (rowB m.body ++ rest))):=by simp [encM,numsB]
 have e1:numL (encM m ++ rest) false = (clampN m.uid,numB (clampN m.flags) ++ (numB (clampN m.date) ++ (rowB m.body ++ rest)),false):=by rw [e]; exact numL_numB _ _ _ (clampN_le _)
 have e2:nm2 (encM m ++ rest) false = (clampN m.flags,numB (clampN m.date) ++ (rowB m.body ++ rest),false):=by unfold nm2; rw [e1]; exact numL_numB _ _ _ (clampN_le _)
 have e3:nm3 (encM m ++ rest) false = (clampN m.date,rowB m.body ++ rest,false):=by unfold nm3; rw [e2]; exact numL_numB _ _ _ (clampN_le _)
 have e4:bytL (rowB m.body ++ rest) false = (m.body,rest,false):=bytL_rowB _ _ h4
 unfold msgL
 rw [e1,e2,e3]
 simp only [e4,clamp_of h1.1 h1.2,clamp_of h2.1 h2.2,clamp_of h3.1 h3.2]
theorem bxL_enc:∀ (L:List Msg) (acc:List Msg) (rest:List UInt8),(∀ m ∈ L,(0 ≤ m.uid ∧ m.uid ≤ 4611686018427387904) ∧ (0 ≤ m.flags ∧ m.flags ≤ 4611686018427387904) ∧ (0 ≤ m.date ∧ m.date ≤ 4611686018427387904) ∧ m.body.length ≤ 4611686018427387904) → bxL L.length (L.flatMap encM ++ rest) false acc = (acc ++ L,rest,false)
 | [],acc,rest,_ => by simp [bxL]
 | m :: L,acc,rest,h => by
  obtain ⟨h1,h2,h3,h4⟩:=h m (List.mem_cons_self ..)
  rw [List.flatMap_cons,List.append_assoc,List.length_cons]
  simp only [bxL]
  rw [if_neg (by decide),msgL_enc m _ h1 h2 h3 h4]
  have:=bxL_enc L (acc ++ [m]) rest fun x hx => h x (List.mem_cons_of_mem _ hx)
  rw [this]
  simp
theorem read_enc {b:Bx} (h:isB b = true):bxRead (encX b) = (b,[],false):=by
 have hI:=IsB.of h
 have hnm:b.name.size ≤ 12:=by
  simp only [isB,Bool.and_eq_true] at h
  have:=h.1.1.2
  unfold nameOk at this
  simp only [Bool.and_eq_true,decide_eq_true_eq] at this
  exact this.2
 have hnl:b.name.data.toList.length ≤ 4611686018427387904:=by rw [Array.length_toList]; exact Nat.le_trans hnm (by decide)
 obtain ⟨R,hR⟩:∃ R,R = b.L.flatMap encM:=⟨_,rfl⟩
 have e:encX b = rowB b.name.data.toList ++ (numB (clampN b.val) ++ (numB (clampN b.next) ++ (numB (clampN (b.L.length:Int)) ++ R))):=by simp [encX,numsB,hR]
 have hb:bytL (encX b) false = (b.name.data.toList,numB (clampN b.val) ++ (numB (clampN b.next) ++ (numB (clampN (b.L.length:Int)) ++ R)),false):=by rw [e]; exact bytL_rowB _ _ hnl
 have e1:numL (numB (clampN b.val) ++ (numB (clampN b.next) ++ (numB (clampN (b.L.length:Int)) ++ R))) false = (clampN b.val,numB (clampN b.next) ++ (numB (clampN (b.L.length:Int)) ++ R),false):=numL_numB _ _ _ (clampN_le _)
 have e2:nm2 (numB (clampN b.val) ++ (numB (clampN b.next) ++ (numB (clampN (b.L.length:Int)) ++ R))) false = (clampN b.next,numB (clampN (b.L.length:Int)) ++ R,false):=by unfold nm2; rw [e1]; exact numL_numB _ _ _ (clampN_le _)
 have e3:nm3 (numB (clampN b.val) ++ (numB (clampN b.next) ++ (numB (clampN (b.L.length:Int)) ++ R))) false = (clampN (b.L.length:Int),R,false):=by unfold nm3; rw [e2]; exact numL_numB _ _ _ (clampN_le _)
 have hlen:clampN (b.L.length:Int) = b.L.length:=by have:=hI.len; unfold clampN; omega
 have hL:=bxL_enc b.L [] [] fun m hm => by
  obtain ⟨h1,h2,h3,h4,h5⟩:=hI.all m hm
  have:=hI.next
  simp only [okF,Bool.and_eq_true,decide_eq_true_eq] at h3 h4
  exact ⟨⟨by omega,by omega⟩,⟨by omega,by omega⟩,⟨by omega,by omega⟩,by omega⟩
 rw [List.append_nil,← hR,List.nil_append] at hL
 unfold bxRead
 rw [hb]
 simp only
 rw [e1,e2,e3,hlen]
 simp only [hL]
 rw [clamp_of (by have:=hI.val; omega) (by have:=hI.val; omega),clamp_of (by have:=hI.next; omega) (by have:=hI.next; omega)]
theorem ok_enc {b:Bx} (h:isB b = true):bxOk (encX b) = true:=by
 unfold bxOk
 rw [read_enc h]
 simp [h]
theorem encX_len {b:Bx} (h:isB b = true):(encX b).length ≤ 100000:=by
 have hI:=IsB.of h
 have hnm:b.name.size ≤ 12:=by
  simp only [isB,Bool.and_eq_true] at h
  have:=h.1.1.2
  unfold nameOk at this
  simp only [Bool.and_eq_true,decide_eq_true_eq] at this
  exact this.2
 have hnl:b.name.data.toList.length ≤ 12:=by rw [Array.length_toList]; exact hnm
 have h1:=rowB_lenq (l:=b.name.data.toList) (by omega)
 have h2:=numsB_len [b.val,b.next,(b.L.length:Int)]
 have h3:=encMs_len b.L fun m hm => (hI.all m hm).2.2.2.2
 have h4:=hI.len
 simp only [List.length_cons,List.length_nil] at h2
 unfold encX
 rw [List.length_append,List.length_append]
 omega
end Go.Proofs.YtellahclbhfdiaaGreatDoor
