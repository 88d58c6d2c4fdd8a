/-
  A disk in memory: what it is; its small functions: may, done, Used. By the session itself. disk.New, Append walked. By the session itself. Append of a disk walked. By the session itself.
-/
import Derived.Test.YtellahclbhfdiaaGreatDoorZ03
import Derived.Test.YtellahclbhfdiaaGreatDoorZ14
import Derived.Test.YtellahclbhfdiaaGreatDoorZ04
namespace Go.Proofs.YtellahclbhfdiaaGreatDoor
set_option linter.unusedSimpArgs false
set_option linter.unusedVariables false
set_option maxRecDepth 100000
set_option maxHeartbeats 1000000
open Go.Vc Go.RowKit
/-- A file: its bytes, and how many of them last. -/
structure Fil where
 b:List UInt8
 l:Nat
/-- A disk: its room, its files, what a fuse lets be done. -/
structure Dsk where
 room:Nat
 fs:List (Nm × Fil)
 left:Option Nat
def Dsk.used (D:Dsk):Nat:=sumv (fun f => f.b.length) D.fs
structure Dsk.Ok (D:Dsk):Prop where
 srt:Srt D.fs
 room:D.room ≤ 1073741824
 used:D.used ≤ D.room
 many:D.fs.length ≤ 4096
 lasts:∀ s f,tLook D.fs s = some f → f.l ≤ f.b.length
 left:∀ n,D.left = some n → n ≤ 9223372036854775807
 names:∀ s x,tLook D.fs s = some x → s.length ≤ 64
/-- The pointers to files. -/
def Mf (ptr:Nm → Nat) (fs:List (Nm × Fil)):Nm → Option Value:=fun s => (tLook fs s).map fun _ => .pointer (some ⟨ptr s,0,none⟩)
/-- Block p is a file; all of it lies in F. -/
def FileAt (w:World) (p:Nat) (f:Fil) (F:Nat → Prop):Prop:=∃ v G,Blk w p 137 #[v,i64 f.l] ∧ Bf w v f.b G ∧ ¬ G p ∧ (∀ k,k = p ∨ G k → F k) ∧ (∀ k,F k → k < w.heap.size)
structure DkM (w:World) (g:Nat) (D:Dsk) (F:Nat → Prop) (r:Nat) (z:Int) (ptr:Nm → Nat) (Fs:Nm → Nat → Prop):Prop where
 blk:Blk w g 131 #[i64 D.room,.map (some r),.bool D.left.isSome,i64 z]
 left:∀ n,D.left = some n → z = n
 mp:Mp w r (fun l => str l) (Mf ptr D.fs)
 files:∀ s f,tLook D.fs s = some f → FileAt w (ptr s) f (Fs s)
 apart:∀ s t k,s ≠ t → Fs s k → ¬ Fs t k
 inn:∀ s k,Fs s k → F k ∧ k ≠ g ∧ k ≠ r
 ne:g ≠ r
 fg:F g
 fr:F r
 lt:∀ k,F k → k < w.heap.size
/-- Block g is a disk; all of it lies in F. -/
def Dk (w:World) (g:Nat) (D:Dsk) (F:Nat → Prop):Prop:=D.Ok ∧ ∃ r z ptr Fs,DkM w g D F r z ptr Fs
theorem FileAt.kp {S:Nat → Prop} {w w':World} {p:Nat} {f:Fil} {F:Nat → Prop} (h:FileAt w p f F) (k:Kp S w w') (hd:∀ i,F i → ¬ S i):FileAt w' p f F:=by
 obtain ⟨v,G,h1,h2,h3,h4,h5⟩:=h
 exact ⟨v,G,h1.kp k (hd _ (h4 _ (.inl rfl))),h2.kp k (fun i hi => hd _ (h4 _ (.inr hi))),h3,h4,fun i hi => Nat.lt_of_lt_of_le (h5 i hi) k.size⟩
theorem DkM.kp {S:Nat → Prop} {w w':World} {g:Nat} {D:Dsk} {F:Nat → Prop} {r:Nat} {z:Int} {ptr:Nm → Nat} {Fs:Nm → Nat → Prop} (h:DkM w g D F r z ptr Fs) (k:Kp S w w') (hd:∀ i,F i → ¬ S i):DkM w' g D F r z ptr Fs :=
 ⟨h.blk.kp k (hd _ h.fg),h.left,h.mp.kp k (hd _ h.fr),fun s f hf => (h.files s f hf).kp k fun i hi => hd _ (h.inn s i hi).1,h.apart,h.inn,h.ne,h.fg,h.fr,fun i hi => Nat.lt_of_lt_of_le (h.lt i hi) k.size⟩
theorem Dk.kp {S:Nat → Prop} {w w':World} {g:Nat} {D:Dsk} {F:Nat → Prop} (h:Dk w g D F) (k:Kp S w w') (hd:∀ i,F i → ¬ S i):Dk w' g D F:=by
 obtain ⟨ok,r,z,ptr,Fs,h⟩:=h
 exact ⟨ok,r,z,ptr,Fs,h.kp k hd⟩
theorem Dk.nw {w w':World} {g:Nat} {D:Dsk} {F:Nat → Prop} (h:Dk w g D F) (k:Nw w w'):Dk w' g D F:=h.kp k fun _ _ h => h
theorem Dk.lt {w:World} {g:Nat} {D:Dsk} {F:Nat → Prop} (h:Dk w g D F):∀ k,F k → k < w.heap.size:=by
 obtain ⟨_,_,_,_,_,h⟩:=h
 exact h.lt
theorem Dk.ok {w:World} {g:Nat} {D:Dsk} {F:Nat → Prop} (h:Dk w g D F):D.Ok:=h.1
/-- Does a name, or a fuse, forbid it? -/
def badN (s:Nm):Bool:=decide (s.length < 1) || decide (64 < s.length)
def mayL (D:Dsk) (ns:List Nm):Nat:=if D.left = some 0 then 9 else if ns.any badN then 1 else 0
def Dsk.done (D:Dsk):Dsk:={ D with left:=D.left.map (· - 1) }
theorem may_spec (ns:List Nm) (A:Option Addr) (c:Nat) (g:Nat) (D:Dsk) (F:Nat → Prop) (w:World) (h:Dk w g D F) (hr:Rd w A (ns.map fun s => str s)) (hl:ns.length ≤ 140737488355328) (hs:∀ s ∈ ns,s.length ≤ 9223372036854775807) :
  Cal Tryz.prog 156 #[.pointer (some ⟨g,0,none⟩),.slice A ns.length c] w fun v w' => v = i64 (mayL D ns) ∧ w' = w:=by
 obtain ⟨ok,r,z,ptr,Fs,h⟩:=h
 have h2:=h.blk.cell 2
 have h3:=h.blk.cell 3
 have fin:∀ (hz:D.left ≠ some 0),mayL D ns = if ns.any badN then 1 else 0:=fun hz => by unfold mayL; rw [if_neg hz]
 refine enter Tryz.mixed Tryz.func156 rfl (by kernel_rfl) ?_
 cases hd:D.left with
 | none =>
  have hz:D.left ≠ some 0:=by rw [hd]; simp
  rw [hd] at h2
  simp -dsimp [go_sem,h2,h3]
  refine loop [4,6,24,25,26,27,28,29,30,31,32,33,34,35,36] (by kernel_rfl) (fun f w' => Box1 (fun a w' => ∃ i:Nat,i ≤ ns.length ∧ a = i64 i ∧ (ns.take i).any badN = false ∧ w' = w) (f 24) w') (fun f _ => ns.length - (intOf (f 24)).toNat) ⟨0,Nat.zero_le _,rfl,rfl,rfl⟩ ?_
  rintro f w' ⟨i,hi,f24,hb,rfl⟩
  simp -dsimp [go_sem,f24]
  refine cond_d (fun hlt => ?_) (fun hlt => ?_)
  ·have hlt:i < ns.length:=by omega
   obtain ⟨b,o,rfl,hc⟩:=hr i (str ns[i]) (by simp [hlt])
   have hsl:=hs ns[i] (List.getElem_mem hlt)
   have htk:(ns.take (i + 1)).any badN = badN ns[i]:=by
    rw [List.take_succ_eq_append_getElem hlt,List.any_append,hb]
    simp
   have hmem:=List.getElem_mem hlt
   obtain ⟨s,hs'⟩:∃ s,s = ns[i]:=⟨_,rfl⟩
   rw [← hs'] at hc htk hsl hmem
   have bad:badN s = true → mayL D ns = 1:=fun hbs => by
    rw [fin hz,if_pos]
    exact List.any_eq_true.2 ⟨s,hmem,hbs⟩
   by_cases h1:s.length < 1
   ·have h1':(s.length:Int) < 1:=by omega
    simp -dsimp [go_sem,f24,hlt,hc,h1,h1']
    rw [bad (by simp [badN,h1])]
    rfl
   ·have h1':¬ (s.length:Int) < 1:=by omega
    by_cases h64:64 < s.length
    ·have h64':(64:Int) < (s.length:Int):=by omega
     simp -dsimp [go_sem,f24,hlt,hc,h1,h1',h64,h64']
     rw [bad (by simp [badN,h64])]
     rfl
    ·have h64':¬ (64:Int) < (s.length:Int):=by omega
     have hk1:IntKind.i64.wrap ((i:Int) + 1) = ((i + 1:Nat):Int):=w64 (by omega) (by omega)
     obtain ⟨k1,hk1'⟩:∃ k1,k1 = i + 1:=⟨_,rfl⟩
     rw [← hk1'] at hk1 htk
     simp -dsimp [go_sem,f24,hlt,hc,h1,h1',h64,h64',hk1]
     refine ⟨⟨k1,by omega,rfl,?_,rfl⟩,by simp [intOf]; omega⟩
     rw [htk]
     simp [badN,h1,h64]
  ·obtain rfl:i = ns.length:=by omega
   rw [List.take_length] at hb
   simp -dsimp [go_sem]
   rw [fin hz,hb]
   rfl
 | some n =>
  have hzn:=h.left n hd
  rw [hd] at h2
  by_cases h0:n = 0
  ·subst h0
   have hz0:z = 0:=by simpa using hzn
   subst hz0
   simp -dsimp [go_sem,h2,h3]
   unfold mayL
   rw [if_pos hd]
   rfl
  ·have hz:D.left ≠ some 0:=by rw [hd]; simpa using h0
   have hz0:(z == 0) = false:=by rw [beq_eq_false_iff_ne]; omega
   simp -dsimp [go_sem,h2,h3,hz0]
   refine loop [4,6,24,25,26,27,28,29,30,31,32,33,34,35,36] (by kernel_rfl) (fun f w' => Box1 (fun a w' => ∃ i:Nat,i ≤ ns.length ∧ a = i64 i ∧ (ns.take i).any badN = false ∧ w' = w) (f 24) w') (fun f _ => ns.length - (intOf (f 24)).toNat) ⟨0,Nat.zero_le _,rfl,rfl,rfl⟩ ?_
   rintro f w' ⟨i,hi,f24,hb,rfl⟩
   simp -dsimp [go_sem,f24]
   refine cond_d (fun hlt => ?_) (fun hlt => ?_)
   ·have hlt:i < ns.length:=by omega
    obtain ⟨b,o,rfl,hc⟩:=hr i (str ns[i]) (by simp [hlt])
    have hsl:=hs ns[i] (List.getElem_mem hlt)
    have htk:(ns.take (i + 1)).any badN = badN ns[i]:=by
     rw [List.take_succ_eq_append_getElem hlt,List.any_append,hb]
     simp
    have hmem:=List.getElem_mem hlt
    obtain ⟨s,hs'⟩:∃ s,s = ns[i]:=⟨_,rfl⟩
    rw [← hs'] at hc htk hsl hmem
    have bad:badN s = true → mayL D ns = 1:=fun hbs => by
     rw [fin hz,if_pos]
     exact List.any_eq_true.2 ⟨s,hmem,hbs⟩
    by_cases h1:s.length < 1
    ·have h1':(s.length:Int) < 1:=by omega
     simp -dsimp [go_sem,f24,hlt,hc,h1,h1']
     rw [bad (by simp [badN,h1])]
     rfl
    ·have h1':¬ (s.length:Int) < 1:=by omega
     by_cases h64:64 < s.length
     ·have h64':(64:Int) < (s.length:Int):=by omega
      simp -dsimp [go_sem,f24,hlt,hc,h1,h1',h64,h64']
      rw [bad (by simp [badN,h64])]
      rfl
     ·have h64':¬ (64:Int) < (s.length:Int):=by omega
      have hk1:IntKind.i64.wrap ((i:Int) + 1) = ((i + 1:Nat):Int):=w64 (by omega) (by omega)
      obtain ⟨k1,hk1'⟩:∃ k1,k1 = i + 1:=⟨_,rfl⟩
      rw [← hk1'] at hk1 htk
      simp -dsimp [go_sem,f24,hlt,hc,h1,h1',h64,h64',hk1]
      refine ⟨⟨k1,by omega,rfl,?_,rfl⟩,by simp [intOf]; omega⟩
      rw [htk]
      simp [badN,h1,h64]
   ·obtain rfl:i = ns.length:=by omega
    rw [List.take_length] at hb
    simp -dsimp [go_sem]
    rw [fin hz,hb]
    rfl
theorem Dsk.Ok.done {D:Dsk} (h:D.Ok):D.done.Ok:=⟨h.srt,h.room,h.used,h.many,h.lasts,fun n hn => by
 unfold Dsk.done at hn
 cases hd:D.left with
 | none => simp [hd] at hn
 | some m =>
  have:=h.left m hd
  simp [hd] at hn
  omega,h.names⟩
theorem Blk.set0 {w:World} {g:Nat} {t:TypeId} {cs:Array Value} (h:Blk w g t cs) (i:Nat) (u:Value) {cs':Array Value} (e:cs.setIfInBounds i u = cs'):Blk (w.setCell ⟨g,i,none⟩ u) g t cs':=by
 rw [← e]; exact h.set i u
theorem done_spec (g:Nat) (D:Dsk) (F:Nat → Prop) (w:World) (h:Dk w g D F) (hl:D.left ≠ some 0) :
  Cal Tryz.prog 158 #[.pointer (some ⟨g,0,none⟩)] w fun v w' => v = i64 0 ∧ Dk w' g D.done F ∧ Kp (At g) w w':=by
 obtain ⟨ok,r,z,ptr,Fs,h⟩:=h
 have h2:=h.blk.cell 2
 have h3:=h.blk.cell 3
 have hf:=h.blk.frozen 3
 refine enter Tryz.mixed Tryz.func158 rfl (by kernel_rfl) ?_
 cases hd:D.left with
 | none =>
  rw [hd] at h2
  simp -dsimp [go_sem,h2,h3]
  refine ⟨⟨ok.done,r,z,ptr,Fs,?_⟩,Kp.refl _ _⟩
  have e:D.done = D:=by
   unfold Dsk.done
   rw [hd]
   show _ = D
   cases D
   simp at hd
   simp [hd]
  rw [e]; exact h
 | some n =>
  have hzn:=h.left n hd
  have hn0:n ≠ 0:=fun e => hl (by rw [hd,e])
  have hnl:=ok.left n hd
  rw [hd] at h2
  have hw:IntKind.i64.wrap (z - 1) = ((n - 1:Nat):Int):=by rw [w64 (by omega) (by omega)]; omega
  obtain ⟨m,hm⟩:∃ m,m = n - 1:=⟨_,rfl⟩
  rw [← hm] at hw
  simp -dsimp [go_sem,h2,h3,hf,hw]
  have hk:Kp (At g) w (w.setCell ⟨g,3,none⟩ (i64 m)):=(Kp.refl _ _).setCell_at _ _
  have hdl:D.done.left = some m:=by
   unfold Dsk.done
   rw [hd,hm]
   rfl
  have hng:∀ s i,Fs s i → ¬ At g i:=fun s i hi (e:i = g) => (h.inn s i hi).2.1 e
  exact ⟨⟨ok.done,r,m,ptr,Fs,⟨Blk.set0 h.blk _ _ (by rw [hdl]; simp [hd,Dsk.done]),fun k hk => by rw [hdl] at hk; cases hk; rfl,h.mp.kp hk (fun e => h.ne e.symm),fun s f hf => (h.files s f hf).kp hk (hng s),
   h.apart,h.inn,h.ne,h.fg,h.fr,fun i hi => Nat.lt_of_lt_of_le (h.lt i hi) hk.size⟩⟩,hk⟩
theorem keyL {P:Program} {kt:TypeId} (h:P.underlying kt = some .string):KeyS P kt (fun s:Nm => str s):=by
 have K:=keyStr h
 have e:∀ a b:Nm,(⟨a.toArray⟩:ByteArray) = ⟨b.toArray⟩ ↔ a = b:=fun a b => ⟨fun h => by injection h with h; exact List.toArray_inj h,fun h => by rw [h]⟩
 obtain ⟨d,hd,hs⟩:=K.desc
 exact ⟨⟨d,hd,fun a b => by rw [hs]; congr 1; simp [e]⟩,fun b a w => K.check b _ w,fun a => K.bits _,fun a b h => (e a b).1 (K.inj _ _ h)⟩
theorem used_spec (g:Nat) (D:Dsk) (F:Nat → Prop) (w:World) (h:Dk w g D F) :
  Cal Tryz.prog 157 #[.pointer (some ⟨g,0,none⟩)] w fun v w' => v = i64 D.used ∧ Nw w w':=by
 obtain ⟨ok,r,z,ptr,Fs,h⟩:=h
 have h1:=h.blk.cell 1
 have K:KeyS Tryz.prog 9 (fun s:Nm => str s):=keyL (by kernel_rfl)
 have hmt:Tryz.prog.underlying 129 = some (.map 9 135):=by kernel_rfl
 obtain ⟨w1,hrun,hR,hk1⟩:=range_mp hmt h.mp
 refine enter Tryz.mixed Tryz.func157 rfl (by kernel_rfl) ?_
 simp -dsimp [go_sem,h1,hrun]
 have hu:D.used ≤ 1073741824:=Nat.le_trans ok.used ok.room
 have hrl:=h.lt r h.fr
 obtain ⟨it,hit⟩:∃ it,it = w.heap.size:=⟨_,rfl⟩
 rw [← hit] at hR ⊢
 refine loop [3,5,13,14,15,16,17,18,19,20,21,22,23] (by kernel_rfl)
  (fun f w' => Box1 (fun a w' => ∃ (n:Nat) (left:Nm → Bool),a = i64 n ∧ n + sumL (fun f => f.b.length) left D.fs = D.used ∧ Rg w' it r (fun s:Nm => str s) (Mf ptr D.fs) (fun s => left s = true) ∧ Nw w w') (f 3) w') (fun _ w' => rgN w' it r)
  ⟨0,fun _ => true,rfl,by rw [sumL_all,Nat.zero_add]; rfl,by simpa using hR,hk1⟩ ?_
 rintro f w' ⟨n,left,f3,hsum,hR,hK⟩
 rcases next_rg (P:=Tryz.prog) K.inj hR 0 with ⟨hend,hnext⟩ | ⟨a,v,w2,ha,hla,hnext,hR2,hK2,hN2,hentry⟩
 ·simp -dsimp [go_sem,hnext,f3]
  have h0:sumL (fun f => f.b.length) left D.fs = 0:=sumL_none _ _ _ (fun s x hs => by
   have:=hend s (.pointer (some ⟨ptr s,0,none⟩)) (by simp [Mf,hs])
   simpa using this) ok.srt
  exact ⟨by omega,hK⟩
 ·have hK2':Nw w w2:=Nw.at_ hK hK2 (Nf.at_ (by omega))
  obtain ⟨x,hx⟩:∃ x,tLook D.fs a = some x:=by
   cases hx:tLook D.fs a with
   | none => simp [Mf,hx] at ha
   | some x => exact ⟨x,rfl⟩
  have hv:v = .pointer (some ⟨ptr a,0,none⟩):=by
   simp [Mf,hx] at ha
   exact ha.symm
  subst hv
  obtain ⟨u,G,hb,⟨A,c,rfl,ho,_⟩,_⟩:=(h.files a x hx).kp hK2' fun _ _ h => h
  have hb0:=hb.cell 0
  have hst:=sumL_step (fun f:Fil => f.b.length) left ok.srt hx hla
  have hn1:IntKind.i64.wrap ((n:Int) + (x.b.length:Int)) = ((n + x.b.length:Nat):Int):=w64 (by omega) (by omega)
  obtain ⟨n1,hn1'⟩:∃ n1,n1 = n + x.b.length:=⟨_,rfl⟩
  rw [← hn1'] at hn1
  simp -dsimp [go_sem,hnext,hentry,hb0,f3,hn1]
  exact ⟨⟨n1,fun t => left t && !decide (t = a),rfl,by omega,by simpa using hR2,hK2'⟩,hN2⟩
theorem new_spec (n:Int) (w:World):Cal Tryz.prog 52 #[i64 n] w fun v w' =>
  ((n < 0 ∨ 1073741824 < n) ∧ v = .tuple #[.pointer none,i64 1] ∧ w' = w) ∨ (0 ≤ n ∧ n ≤ 1073741824 ∧ ∃ g F,v = .tuple #[.pointer (some ⟨g,0,none⟩),i64 0] ∧ Dk w' g ⟨n.toNat,[],none⟩ F ∧ Nf w F ∧ Nw w w'):=by
 refine enter Tryz.mixed Tryz.func52 rfl (by kernel_rfl) ?_
 by_cases h0:n < 0
 ·simp -dsimp [go_sem,h0]
 ·by_cases h1:1073741824 < n
  ·simp -dsimp [go_sem,h0,h1]
  ·have hmk:=fun (t:TypeId) (w:World) => run_makeMap (P:=Tryz.prog) t w
   simp -dsimp [go_sem,h0,h1,hmk]
   simp [go_sem]
   have k1:Nw w (w.alloc (.map #[] 0)):=(Kp.refl _ _).alloc _
   have k2:=k1.alloc (.cells #[i64 n,.map (some w.heap.size),.bool false,i64 0] 131)
   have m1:Mp (w.alloc (.map #[] 0)) w.heap.size (fun l:Nm => str l) (fun _ => none):=Mp.new w
   have hn:i64 n = i64 (n.toNat:Nat):=by congr 1; omega
   rw [hn] at k2 ⊢
   refine ⟨by omega,by omega,fun k => w.heap.size ≤ k ∧ k < w.heap.size + 2,⟨⟨Srt.nil,by simp; omega,by simp [Dsk.used,sumv],by simp,by simp [tLook],by simp,by simp [tLook]⟩,w.heap.size,0,fun _ => 0,fun _ _ => False,?_⟩,fun i h => h.1,k2⟩
   refine ⟨Blk.fresh (by simp),by simp,?_,by simp [tLook],fun _ _ _ _ h => h.elim,fun _ _ h => h.elim,by omega,by omega,by omega,?_⟩
   ·exact m1.kp ((Kp.refl (fun _ => False) _).alloc _) fun h => h
   ·rintro k ⟨_,h⟩
    simp
    omega
/-- A file that is nothing yet. -/
def Fil.none:Fil:=⟨[],0⟩
def dAppend (D:Dsk) (s:Nm) (b:List UInt8):Dsk × Nat :=
 if mayL D [s] ≠ 0 then (D,mayL D [s])
 else if D.room < D.used + b.length ∨ (tLook D.fs s = .none ∧ 4096 ≤ D.fs.length) then (D,6)
 else (Dsk.done { D with fs:=tLay D.fs s ⟨((tLook D.fs s).getD .none).b ++ b,((tLook D.fs s).getD .none).l⟩ },0)
theorem mayL_names {D:Dsk} {ns:List Nm} (h:mayL D ns = 0):∀ s ∈ ns,s.length ≤ 64:=fun s hs => by
 unfold mayL at h
 split at h
 ·cases h
 ·split at h
  ·cases h
  ·rename_i h1 h2
   have h2:ns.any badN = false:=by simpa using h2
   have:=List.any_eq_false.1 h2 s hs
   simp [badN] at this
   omega
theorem put_self {α:Type} [DecidableEq α] {m:α → Option Value} {a:α} {v:Value} (h:m a = some v):put m a v = m:=by
 funext x
 unfold put
 split
 ·rename_i e; rw [e,h]
 ·rfl
theorem Mf_lay (ptr:Nm → Nat) (fs:List (Nm × Fil)) (s:Nm) (f:Fil) (p:Nat):Mf (fun t => if t = s then p else ptr t) (tLay fs s f) = put (Mf ptr fs) s (.pointer (some ⟨p,0,none⟩)):=by
 funext t
 simp only [Mf,put,tLook_lay]
 split
 ·simp
 ·rfl
/-- A file has turned, or is new. -/
theorem DkM.turn {w w':World} {g:Nat} {D:Dsk} {F:Nat → Prop} {r:Nat} {z:Int} {ptr:Nm → Nat} {Fs:Nm → Nat → Prop} (h:DkM w g D F r z ptr Fs) (s:Nm) (f:Fil) (p:Nat) (F':Nat → Prop)
  (hk:Kp (fun k => Fs s k ∨ k = r) w w') (hm:Mp w' r (fun l:Nm => str l) (put (Mf ptr D.fs) s (.pointer (some ⟨p,0,none⟩)))) (hf:FileAt w' p f F') (hG:Gr (Fs s) F' w w') :
  DkM w' g { D with fs:=tLay D.fs s f } (fun k => F k ∨ F' k) r z (fun t => if t = s then p else ptr t) (fun t => if t = s then F' else Fs t):=by
 have hgs:¬ (Fs s g ∨ g = r):=fun e => e.elim (fun e => (h.inn s g e).2.1 rfl) h.ne
 have hnew:∀ k,F' k → Fs s k ∨ w.heap.size ≤ k:=fun k hk => (hG k hk).imp id And.left
 have hgl:=h.lt g h.fg
 have hrl:=h.lt r h.fr
 have hF':∀ k,F' k → k < w'.heap.size:=by
  obtain ⟨_,_,_,_,_,_,h⟩:=hf
  exact h
 have hFs:∀ t k,Fs t k → k < w.heap.size:=fun t k hk => h.lt k (h.inn t k hk).1
 refine ⟨h.blk.kp hk hgs,h.left,by rw [Mf_lay]; exact hm,fun t x hx => ?_,fun t u k htu ht hu => ?_,fun t k ht => ?_,h.ne,.inl h.fg,.inl h.fr,fun k hk' => ?_⟩
 ·simp only [tLook_lay] at hx
  by_cases hts:t = s
  ·rw [if_pos hts] at hx
   cases hx
   simp only [hts,if_true]
   exact hf
  ·rw [if_neg hts] at hx
   simp only [if_neg hts]
   refine (h.files t x hx).kp hk fun i hi e => ?_
   rcases e with e | e
   ·exact h.apart t s i hts hi e
   ·exact (h.inn t i hi).2.2 e
 ·by_cases hts:t = s
  ·by_cases hus:u = s
   ·exact htu (hts.trans hus.symm)
   ·rw [if_pos hts] at ht
    rw [if_neg hus] at hu
    rcases hnew k ht with e | e
    ·exact h.apart s u k (fun e => hus e.symm) e hu
    ·have:=hFs u k hu; omega
  ·rw [if_neg hts] at ht
   by_cases hus:u = s
   ·rw [if_pos hus] at hu
    rcases hnew k hu with e | e
    ·exact h.apart t s k hts ht e
    ·have:=hFs t k ht; omega
   ·rw [if_neg hus] at hu
    exact h.apart t u k htu ht hu
 ·by_cases hts:t = s
  ·rw [if_pos hts] at ht
   rcases hnew k ht with e | e
   ·exact ⟨.inl (h.inn s k e).1,(h.inn s k e).2⟩
   ·exact ⟨.inr ht,by omega,by omega⟩
  ·rw [if_neg hts] at ht
   exact ⟨.inl (h.inn t k ht).1,(h.inn t k ht).2⟩
 ·rcases hk' with e | e
  ·exact Nat.lt_of_lt_of_le (h.lt k e) hk.size
  ·exact hF' k e
theorem DkM.kpF {w w':World} {g:Nat} {D:Dsk} {F:Nat → Prop} {r:Nat} {z:Int} {ptr:Nm → Nat} {Fs:Nm → Nat → Prop} (h:DkM w g D F r z ptr Fs) {s:Nm} (hk:Kp (fun k => Fs s k ∨ k = r) w w'):Kp F w w' :=
 hk.mono fun i _ e => e.elim (fun e => (h.inn s i e).1) fun e => e ▸ h.fr
theorem DkM.gr {w w':World} {g:Nat} {D:Dsk} {F:Nat → Prop} {r:Nat} {z:Int} {ptr:Nm → Nat} {Fs:Nm → Nat → Prop} (h:DkM w g D F r z ptr Fs) {s:Nm} {F':Nat → Prop} (hG:Gr (Fs s) F' w w'):Gr F (fun k => F k ∨ F' k) w w':=fun k hk => by
 rcases hk with e | e
 ·exact .inl e
 ·rcases hG k e with e | e
  ·exact .inl (h.inn s k e).1
  ·exact .inr e
theorem Dsk.Ok.lay {D:Dsk} (h:D.Ok) (s:Nm) (f:Fil) (hf:f.l ≤ f.b.length) (hu:D.used + f.b.length ≤ D.room + ((tLook D.fs s).getD .none).b.length) (hm:tLook D.fs s = .none → D.fs.length < 4096) (hn:s.length ≤ 64):Dsk.Ok { D with fs:=tLay D.fs s f }:=by
 have hs:=sumv_lay h.srt (fun f:Fil => f.b.length) s f
 have hl:=lay_len h.srt s f
 have e:((tLook D.fs s).map fun f:Fil => f.b.length).getD 0 = ((tLook D.fs s).getD .none).b.length:=by cases tLook D.fs s <;> rfl
 rw [e] at hs
 have hu':D.used = sumv (fun f:Fil => f.b.length) D.fs:=rfl
 have hmany:=h.many
 refine ⟨h.srt.tLay s f,h.room,by unfold Dsk.used; simp only; omega,?_,fun t x hx => ?_,h.left,fun t x hx => ?_⟩
 ·simp only
  rw [hl]
  split
  ·exact hmany
  ·rename_i hn
   have:=hm (by cases hx:tLook D.fs s with | none => rfl | some x => rw [hx] at hn; exact absurd rfl hn)
   omega
 ·simp only [tLook_lay] at hx
  split at hx
  ·cases hx; exact hf
  ·exact h.lasts t x hx
 ·simp only [tLook_lay] at hx
  split at hx
  ·rename_i e; rw [e]; exact hn
  ·exact h.names t x hx
theorem Gr.wide {F F':Nat → Prop} {a b w w':World} (h:Gr F F' a b) (h1:w.heap.size ≤ a.heap.size) (h2:b.heap.size ≤ w'.heap.size):Gr F F' w w':=fun k hk => (h k hk).imp id fun ⟨x,y⟩ => ⟨by omega,by omega⟩
theorem Dk.turned {w w':World} {g:Nat} {D:Dsk} {F:Nat → Prop} {r:Nat} {z:Int} {ptr:Nm → Nat} {Fs:Nm → Nat → Prop} (ok:D.Ok) (h:DkM w g D F r z ptr Fs) (s:Nm) (f:Fil) (p:Nat) (F':Nat → Prop)
  (hk:Kp (fun k => Fs s k ∨ k = r) w w') (hm:Mp w' r (fun l:Nm => str l) (put (Mf ptr D.fs) s (.pointer (some ⟨p,0,none⟩)))) (hf:FileAt w' p f F') (hG:Gr (Fs s) F' w w')
  (h1:f.l ≤ f.b.length) (hu:D.used + f.b.length ≤ D.room + ((tLook D.fs s).getD .none).b.length) (hmany:tLook D.fs s = .none → D.fs.length < 4096) (hn:s.length ≤ 64) :
  Dk w' g { D with fs:=tLay D.fs s f } (fun k => F k ∨ F' k) ∧ Gr F (fun k => F k ∨ F' k) w w' ∧ Kp F w w' :=
 ⟨⟨ok.lay s f h1 hu hmany hn,r,z,_,_,h.turn s f p F' hk hm hf hG⟩,h.gr hG,h.kpF hk⟩
theorem len_mp {α:Type} [DecidableEq α] {P:Program} {kt:TypeId} {κ:α → Value} (K:KeyS P kt κ) {mt et ty:TypeId} (ht:P.underlying mt = some (.map kt et)) {w:World} {r:Nat} {m:α → Option Value} (h:Mp w r κ m) {l:List α} (nd:l.Nodup) (hm:∀ a,(m a).isSome = true ↔ a ∈ l) :
  (Builtin.len_ #[mt] ty #[.map (some r)]).run P w = .ok (i64 l.length) w:=by
 obtain ⟨E,clock,hb,hE⟩:=h
 have hp:(E.toList.map (·.key)).Perm (l.map κ):=by
  refine (List.perm_ext_iff_of_nodup ?_ ?_).2 fun v => ?_
  ·exact List.pairwise_map.2 hE.apart
  ·exact List.pairwise_map.2 (nd.imp fun h e => h (K.inj _ _ e))
  ·constructor
   ·intro hv
    obtain ⟨e,he,rfl⟩:=List.mem_map.1 hv
    obtain ⟨a,ha⟩:=hE.keys e he
    rw [ha]
    exact List.mem_map.2 ⟨a,(hm a).1 (by rw [(hE.has a e.val).2 ⟨e,he,ha,rfl⟩]; rfl),rfl⟩
   ·intro hv
    obtain ⟨a,ha,rfl⟩:=List.mem_map.1 hv
    have:=(hm a).2 ha
    cases hma:m a with
    | none => rw [hma] at this; cases this
    | some u =>
     obtain ⟨e,he,hk,_⟩:=(hE.has a u).1 hma
     exact List.mem_map.2 ⟨e,he,hk⟩
 have hl:=hp.length_eq
 rw [List.length_map,List.length_map] at hl
 have hl':E.size = l.length:=by rw [← hl,Array.length_toList]
 simp [Builtin.len_,run_underlying ht,Builtin.lenOf,getObj,Sem.run,hb,hl']
 rfl
theorem dappend_spec (s:Nm) (ps:List (List UInt8)) (A:Option Addr) (c g:Nat) (D:Dsk) (F S:Nat → Prop) (w:World) (h:Dk w g D F) (hr:Brs w A ps S) (hc:ps.length ≤ c) (hp:ps.length ≤ 140737488355328) (hl:ps.flatten.length ≤ 140737488355328) (hsl:s.length ≤ 9223372036854775807) :
  Cal Tryz.prog 98 #[.pointer (some ⟨g,0,none⟩),str s,.slice A ps.length c] w fun v w' => v = i64 (dAppend D s ps.flatten).2 ∧ ∃ F',Dk w' g (dAppend D s ps.flatten).1 F' ∧ Gr F F' w w' ∧ Kp F w w':=by
 have K:KeyS Tryz.prog 9 (fun s:Nm => str s):=keyL (by kernel_rfl)
 have hmt:Tryz.prog.underlying 129 = some (.map 9 135):=by kernel_rfl
 refine enter Tryz.mixed Tryz.func98 rfl (by kernel_rfl) ?_
 simp -dsimp [go_sem]
 have ka:Nw w (w.alloc (.cells #[str s] 9)):=(Kp.refl _ _).alloc _
 have hmay:=may_spec [s] (some ⟨w.heap.size,0,none⟩) 1 g D F _ (h.nw ka) (Rd.fresh rfl rfl) (by simp) (by simpa using hsl)
 refine call hmay ?_
 rintro v w1 ⟨rfl,rfl⟩
 have hb:dAppend D s ps.flatten = if mayL D [s] ≠ 0 then (D,mayL D [s])
  else if D.room < D.used + ps.flatten.length ∨ (tLook D.fs s = .none ∧ 4096 ≤ D.fs.length) then (D,6)
  else (Dsk.done { D with fs:=tLay D.fs s ⟨((tLook D.fs s).getD .none).b ++ ps.flatten,((tLook D.fs s).getD .none).l⟩ },0):=rfl
 obtain ⟨e,he⟩:∃ e,e = mayL D [s]:=⟨_,rfl⟩
 rw [← he] at hb ⊢
 by_cases h0:e = 0
 ·subst h0
  rw [if_neg (fun h => h rfl)] at hb
  have hn64:=mayL_names he.symm s (by simp)
  simp -dsimp [go_sem]
  refine call (join_spec ps A c _ S (hr.nw ka) hc hp hl) ?_
  rintro v w2 ⟨⟨A2,c2,rfl,ho2,hA2⟩,hk2⟩
  have k2:=ka.nw hk2
  obtain ⟨ok,r,z,ptr,Fs,hM⟩:=id (h.nw k2)
  have g0:=hM.blk.cell 0
  have g1:=hM.blk.cell 1
  have hlk:=lookup_mp K hmt (z:=.pointer none) (w:=w2) rfl hM.mp s false
  obtain ⟨b,hbd⟩:∃ b,b = ps.flatten:=⟨_,rfl⟩
  rw [← hbd] at ho2 hb hl ⊢
  have hu:D.used ≤ 1073741824:=Nat.le_trans ok.used ok.room
  have hroom:=ok.room
  have hused:=ok.used
  have hsub:IntKind.i64.wrap ((D.room:Int) - (D.used:Int)) = ((D.room - D.used:Nat):Int):=by rw [w64 (by omega) (by omega)]; omega
  obtain ⟨q,hq⟩:∃ q,q = D.room - D.used:=⟨_,rfl⟩
  rw [← hq] at hsub
  cases hs:tLook D.fs s with
  | some x =>
   have hm1:Mf ptr D.fs s = some (.pointer (some ⟨ptr s,0,none⟩)):=by simp [Mf,hs]
   rw [hm1] at hlk
   simp -dsimp [go_sem,g1,hlk]
   refine draw (.take 0 (.take 1 (.take 2 (.take 3 (.take 4 (.take 5 (.take 6 (.alt 7 (.take 8 (.take 9 (.take 10 (.take 11 (.take 12 (.take 13 (.take 14 (.take 15 (.take 16 (.take 17 (.take 18 (.take 19 (.take 20 (.take 21 .done)))))))))))))) .stop)))))))) (by kernel_rfl) (fun w1 => Nw w2 w1) ((Kp.refl _ _).drew) ?_
   simp -dsimp [go_sem,g0]
   refine ⟨fun w1 h1 => by simp [(hM.kp h1 fun _ _ h => h).blk.cell 0],?_⟩
   refine call (used_spec g D F _ ((h.nw k2).nw ((Kp.refl _ w2).drew))) ?_
   rintro v w3 ⟨rfl,hk3⟩
   refine ⟨((Kp.refl _ w2).drew).nw hk3,?_⟩
   have k3:Nw w2 w3:=((Kp.refl _ w2).drew).nw hk3
   have k03:=k2.nw k3
   by_cases hbig:q < b.length
   ·rw [if_pos (.inl (by omega))] at hb
    have hbig':(q:Int) < (b.length:Int):=by omega
    simp -dsimp [go_sem,hsub,hbig,hbig']
    rw [hb]
    exact ⟨rfl,F,h.nw k03,fun k h => .inl h,Nw.kp k03 F⟩
   ·rw [if_neg (fun h => h.elim (fun h => by omega) fun h => by rw [hs] at h; cases h.1)] at hb
    have hbig':¬ (q:Int) < (b.length:Int):=by omega
    have hM3:=hM.kp k3 fun _ _ h => h
    obtain ⟨u,G,hfb,hBf,hnG,hin,hlt⟩:=hM3.files s x hs
    obtain ⟨A5,c5,rfl,ho5,h51,h52⟩:=id hBf
    have f0:=hfb.cell 0
    have hxu:=sumv_ge (fun f:Fil => f.b.length) hs
    have hxu:x.b.length ≤ D.used:=hxu
    simp -dsimp [go_sem,hsub,hbig,hbig',f0]
    refine bf_app hBf (ho2.nw k3).rd (by omega) ?_
    intro v4 w4 G4 hB4 hG4 hK4
    have hnG4:¬ G4 (ptr s):=fun e => by
     rcases hG4 _ e with e | e
     ·exact hnG e
     ·have:=hlt _ (hin _ (.inl rfl)); omega
    have hfb4:=hfb.kp hK4 hnG
    have hfr4:=hfb4.frozen 0
    obtain ⟨y,hy⟩:∃ y,y = x.b ++ b:=⟨_,rfl⟩
    have hyl:y.length = x.b.length + b.length:=by rw [hy,List.length_append]
    rw [← hy] at hB4
    obtain ⟨A6,c6,rfl,ho6,h61,h62⟩:=id hB4
    have f4:=hfb4.cell 0
    simp -dsimp [go_sem,hfr4,f4]
    have hset:Kp (At (ptr s)) w4 (w4.setCell ⟨ptr s,0,none⟩ (.slice A6 y.length c6)):=(Kp.refl _ _).setCell_at _ _
    have hB5:=hB4.kp hset fun i hi (e:i = ptr s) => hnG4 (e ▸ hi)
    have hfb5:=Blk.set0 hfb4 0 (.slice A6 y.length c6) rfl
    have k5:Kp (fun k => Fs s k ∨ k = r) w3 (w4.setCell ⟨ptr s,0,none⟩ (.slice A6 y.length c6)):=(hK4.mono fun i _ hi => .inl (hin i (.inr hi))).trans hset fun i _ (e:i = ptr s) => .inl (hin i (.inl e))
    have hrG:¬ G r:=fun e => (hM3.inn s r (hin _ (.inr e))).2.2 rfl
    have hrp:r ≠ ptr s:=fun e => (hM3.inn s r (hin _ (.inl e))).2.2 rfl
    obtain ⟨hD5,hG5,hK5⟩:=Dk.turned ok hM3 s ⟨y,x.l⟩ (ptr s) (fun k => k = ptr s ∨ G4 k) k5 (by rw [put_self hm1]; exact (hM3.mp.kp hK4 hrG).kp hset hrp)
     ⟨_,G4,hfb5,hB5,hnG4,fun k h => h,fun k hk => hk.elim (fun e => e ▸ hfb5.lt) (hB5.lt k)⟩
     (fun k hk => hk.elim (fun e => .inl (hin _ (.inl e))) fun e => (hG4 k e).imp (fun e => hin _ (.inr e)) fun e => ⟨e.1,by simpa using e.2⟩)
     (by have:=ok.lasts s x hs; show x.l ≤ y.length; omega) (by rw [hs]; show D.used + y.length ≤ D.room + x.b.length; omega) (by rw [hs]; intro h; cases h) hn64
    have hl5:({ D with fs:=tLay D.fs s ⟨y,x.l⟩ }:Dsk).left ≠ some 0:=fun e => by
     have e:D.left = some 0:=e
     unfold mayL at he
     rw [if_pos e] at he
     cases he
    have hbe:dAppend D s b = (({ D with fs:=tLay D.fs s ⟨y,x.l⟩ }:Dsk).done,0):=by rw [hb,hs,hy]; rfl
    refine call (done_spec g _ _ _ hD5 hl5) ?_
    rintro v w6 ⟨rfl,hD6,hk6⟩
    simp -dsimp [go_sem]
    rw [hbe]
    exact ⟨rfl,_,hD6,Gr.wide hG5 k03.size hk6.size,((Nw.kp k03 F).trans hK5 fun _ _ h => h).trans hk6 fun i _ (e:i = g) => e ▸ hM.fg⟩
  | none =>
   have hm1:Mf ptr D.fs s = none:=by simp [Mf,hs]
   rw [hm1] at hlk
   have hmany:=ok.many
   have hks:∀ t,(Mf ptr D.fs t).isSome = true ↔ t ∈ keysA D.fs:=fun t => by rw [← tLook_keys]; simp [Mf]
   have hnd:(keysA D.fs).Nodup:=List.pairwise_map.2 (List.Pairwise.imp (R:=fun x y:Nm × Fil => x.1 < y.1) (fun h e => nm_ne h e) ok.srt)
   have hlen:=fun (ty:TypeId) w1 (h1:Nw w2 w1) => len_mp (ty:=ty) K hmt (hM.kp h1 fun _ _ h => h).mp hnd hks
   have hkl:(keysA D.fs).length = D.fs.length:=by simp [keysA]
   rw [hkl] at hlen
   obtain ⟨m,hm⟩:∃ m,m = D.fs.length:=⟨_,rfl⟩
   rw [← hm] at hlen
   simp -dsimp [go_sem,g1,hlk]
   refine draw (.take 0 (.take 1 (.take 2 (.take 3 (.take 4 (.take 5 (.take 6 (.alt 7 (.take 8 (.take 9 (.take 10 (.take 11 (.take 12 (.take 13 (.take 14 (.take 15 (.take 16 (.take 17 (.take 18 (.take 19 (.take 20 (.take 21 .done)))))))))))))) .stop)))))))) (by kernel_rfl) (fun w1 => Nw w2 w1) ((Kp.refl _ _).drew) ?_
   simp -dsimp [go_sem,g0]
   refine ⟨fun w1 h1 => by simp [(hM.kp h1 fun _ _ h => h).blk.cell 0],?_⟩
   refine call (used_spec g D F _ ((h.nw k2).nw ((Kp.refl _ w2).drew))) ?_
   rintro v w3 ⟨rfl,hk3⟩
   refine ⟨((Kp.refl _ w2).drew).nw hk3,?_⟩
   have k3:Nw w2 w3:=((Kp.refl _ w2).drew).nw hk3
   have k03:=k2.nw k3
   have hM3:=hM.kp k3 fun _ _ h => h
   have g1':=hM3.blk.cell 1
   by_cases hbig:q < b.length
   ·rw [if_pos (.inl (by omega))] at hb
    have hbig':(q:Int) < (b.length:Int):=by omega
    simp -dsimp [go_sem,hsub,hbig,hbig']
    rw [hb]
    exact ⟨rfl,F,h.nw k03,fun k h => .inl h,Nw.kp k03 F⟩
   ·have hbig':¬ (q:Int) < (b.length:Int):=by omega
    have hln:=hlen 3 w3 k3
    by_cases h4:4096 ≤ m
    ·rw [if_pos (.inr ⟨hs,by omega⟩)] at hb
     have h4':(4096:Int) ≤ (m:Int):=by omega
     simp -dsimp [go_sem,hsub,hbig,hbig',g1',hln,h4,h4']
     refine ⟨fun w1 h1 => by simp [(hM.kp h1 fun _ _ h => h).blk.cell 1],hlen _,?_⟩
     rw [hb]
     exact ⟨rfl,F,h.nw k03,fun k h => .inl h,Nw.kp k03 F⟩
    ·have h4':¬ (4096:Int) ≤ (m:Int):=by omega
     rw [if_neg (fun h => h.elim (fun h => by omega) fun h => by omega)] at hb
     simp -dsimp [go_sem,hsub,hbig,hbig',g1',hln,h4,h4']
     refine ⟨fun w1 h1 => by simp [(hM.kp h1 fun _ _ h => h).blk.cell 1],hlen _,?_⟩
     have kn:Nw w3 (w3.alloc (.cells #[.slice none 0 0,i64 0] 137)):=(Kp.refl _ _).alloc _
     have hfa:Blk (w3.alloc (.cells #[.slice none 0 0,i64 0] 137)) w3.heap.size 137 #[.slice none 0 0,i64 0]:=Blk.new _ _ _
     have hMa:=hM3.kp kn fun _ _ h => h
     have ga:=hMa.blk.cell 1
     have hpF:∀ k,F k → k < w3.heap.size:=hM3.lt
     have hsz:(w3.alloc (.cells #[.slice none 0 0,i64 0] 137)).heap.size = w3.heap.size + 1:=by simp
     generalize w3.alloc (.cells #[.slice none 0 0,i64 0] 137) = wa at *
     obtain ⟨p,hp'⟩:∃ p,p = w3.heap.size:=⟨_,rfl⟩
     rw [← hp'] at hfa hpF hsz ⊢
     obtain ⟨wb,hup,hMb,hkb⟩:=update_mp K hmt hMa.mp s (.pointer (some ⟨p,0,none⟩))
     have hpr:p ≠ r:=fun e => by have:=hpF r hM.fr; omega
     have hpg:p ≠ g:=fun e => by have:=hpF g hM.fg; omega
     have hfb:=hfa.kp hkb hpr
     have f0:=hfb.cell 0
     have hfr:=hfb.frozen 0
     simp -dsimp [go_sem,ga,hup,f0,hfr]
     refine bf_app (l:=[]) (F:=fun _ => False) (Bf.nil _) ((ho2.nw (k3.nw kn)).kp hkb (fun a ha e => ?_)).rd (by simpa using hl) ?_
     ·have h0:=hA2 a ha
      have h1:=h.lt r hM.fr
      have e:a.block = r:=e
      simp at h0
      omega
     intro v4 w4 G4 hB4 hG4 hK4
     have hG4':∀ k,G4 k → wb.heap.size ≤ k ∧ k < w4.heap.size:=fun k hk => (hG4 k hk).elim (fun h => h.elim) id
     have hpl:=hfb.lt
     have hnG4:¬ G4 p:=fun e => by have:=hG4' p e; omega
     have hfb4:=hfb.kp hK4 fun h => h
     have hfr4:=hfb4.frozen 0
     have f4:=hfb4.cell 0
     rw [List.nil_append] at hB4
     obtain ⟨A6,c6,rfl,ho6,h61,h62⟩:=id hB4
     simp -dsimp [go_sem,hfr4,f4]
     have hset:Kp (At p) w4 (w4.setCell ⟨p,0,none⟩ (.slice A6 b.length c6)):=(Kp.refl _ _).setCell_at _ _
     have hB5:=hB4.kp hset fun i hi (e:i = p) => hnG4 (e ▸ hi)
     have hfb5:=Blk.set0 hfb4 0 (.slice A6 b.length c6) rfl
     have k5:Kp (fun k => Fs s k ∨ k = r) w3 (w4.setCell ⟨p,0,none⟩ (.slice A6 b.length c6)) :=
      (((kn.kp fun k => Fs s k ∨ k = r).trans hkb fun i _ (e:i = r) => .inr e).trans hK4 fun i _ h => h.elim).trans hset fun i hi (e:i = p) => by omega
     have hsb:=hkb.size
     have hs4:=hK4.size
     obtain ⟨hD5,hG5,hK5⟩:=Dk.turned ok hM3 s ⟨b,0⟩ p (fun k => k = p ∨ G4 k) k5 ((hMb.kp hK4 fun h => h).kp hset fun e => hpr (e:r = p).symm)
      ⟨_,G4,hfb5,hB5,hnG4,fun k h => h,fun k hk => hk.elim (fun e => e ▸ hfb5.lt) (hB5.lt k)⟩
      (fun k hk => .inr (hk.elim (fun e => by subst e; exact ⟨by omega,by simp; omega⟩) fun e => by have:=hG4' k e; exact ⟨by omega,by simp; omega⟩))
      (Nat.zero_le _) (by rw [hs]; show D.used + b.length ≤ D.room + 0; omega) (fun _ => by omega) hn64
     have hl5:({ D with fs:=tLay D.fs s ⟨b,0⟩ }:Dsk).left ≠ some 0:=fun e => by
      have e:D.left = some 0:=e
      unfold mayL at he
      rw [if_pos e] at he
      cases he
     have hbe:dAppend D s b = (({ D with fs:=tLay D.fs s ⟨b,0⟩ }:Dsk).done,0):=by rw [hb,hs]; rfl
     refine call (done_spec g _ _ _ hD5 hl5) ?_
     rintro v w6 ⟨rfl,hD6,hk6⟩
     simp -dsimp [go_sem]
     rw [hbe]
     exact ⟨rfl,_,hD6,Gr.wide hG5 k03.size hk6.size,((Nw.kp k03 F).trans hK5 fun _ _ h => h).trans hk6 fun i _ (e:i = g) => e ▸ hM.fg⟩
 ·have h0':((e:Int) != 0) = true:=by simp; omega
  rw [if_pos h0] at hb
  simp -dsimp [go_sem,h0']
  rw [hb]
  exact ⟨rfl,F,h.nw ka,fun k h => .inl h,ka.kp F⟩
end Go.Proofs.YtellahclbhfdiaaGreatDoor
