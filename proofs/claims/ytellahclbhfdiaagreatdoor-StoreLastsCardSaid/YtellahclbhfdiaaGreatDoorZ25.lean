/-
  May a change be: isChange walked. By the session itself.
-/
import Derived.Test.YtellahclbhfdiaaGreatDoorZ24
namespace Go.Proofs.YtellahclbhfdiaaGreatDoor
set_option linter.unusedSimpArgs false
set_option linter.unusedVariables false
set_option maxRecDepth 100000
set_option maxHeartbeats 2000000
open Go.Vc Go.RowKit
theorem isChange_spec (v:Value) (c:Chg) (w:World) (h:RC w v c (fun _ => False)) (hsu:(⟨c.user.toArray⟩:ByteArray).size ≤ 9223372036854775807) (hsp:c.pass.length ≤ 9223372036854775807) (hsb:(⟨c.box.toArray⟩:ByteArray).size ≤ 9223372036854775807) (hst:(⟨c.to.toArray⟩:ByteArray).size ≤ 9223372036854775807)
  (hcl:c.uids.length ≤ 9223372036854775807) (hui:∀ n ∈ c.uids,-9223372036854775808 ≤ n ∧ n ≤ 9223372036854775807):Cal Tryz.prog 30 #[v] w fun v' w' => v' = .bool (chgOk c) ∧ Nw w w':=by
 obtain ⟨A,ca,B,cb,rfl,hca,hcb,hrA,_,hrB,_⟩:=h
 refine enter Tryz.mixed Tryz.func30 rfl (by kernel_rfl) ?_
 simp -dsimp [go_sem]
 have k0:Nw w (w.alloc (.cells (chV c A ca B cb) 25)):=(Kp.refl _ _).alloc _
 have hy:=Blk.new w 25 (chV c A ca B cb)
 obtain ⟨y,hy'⟩:∃ y,y = w.heap.size:=⟨_,rfl⟩
 rw [← hy'] at hy ⊢
 obtain ⟨ul,hul⟩:∃ ul,ul = c.uids.length:=⟨_,rfl⟩
 obtain ⟨bl,hbl⟩:∃ bl,bl = c.body.length:=⟨_,rfl⟩
 have hV:ChV (.agg #[i64 c.kind,str c.user,str c.pass,str c.box,str c.to,.slice A ul ca,i64 c.mode,i64 c.flags,i64 c.date,.slice B bl cb]) c:=⟨A,ca,B,cb,by rw [hul,hbl]⟩
 generalize w.alloc (.cells (chV c A ca B cb) 25) = wa at *
 have y0:=(hy).cell 0
 have y1:=(hy).cell 1
 have y2:=(hy).cell 2
 have y3:=(hy).cell 3
 have y4:=(hy).cell 4
 have y5:=(hy).cell 5
 have y6:=(hy).cell 6
 have y7:=(hy).cell 7
 have y8:=(hy).cell 8
 have y9:=(hy).cell 9
 replace y5:=(y5).trans (show _ = some (Value.slice A ul ca) by rw [hul]; rfl)
 replace y9:=(y9).trans (show _ = some (Value.slice B bl cb) by rw [hbl]; rfl)
 obtain ⟨ov,hov⟩:∃ ov,ov = (if c.kind = 1 then passOk c.pass else nmOk c.box):=⟨_,rfl⟩
 obtain ⟨tv,htv⟩:∃ tv,tv = (!toK c.kind || nmOk c.to):=⟨_,rfl⟩
 have hchg:chgOk c = (okF c.kind 1 8 && (nmOk c.user && (ov && (tv && (namedOk c && (uidsOk c.uids && (okF c.mode 0 2 && (okF c.flags 0 31 && (okF c.date 0 1073741824 && decide (bl ≤ 1200)))))))))):=by
  rw [hov,htv,hbl]; rfl
 rw [hchg]
 have bx:∀ (W:World),Cal Tryz.prog 75 #[str c.box] W fun v w' => v = .bool (nmOk c.box) ∧ Nw W w':=fun W => bname_spec ⟨c.box.toArray⟩ W hsb
 have bt:∀ (W:World),Cal Tryz.prog 75 #[str c.to] W fun v w' => v = .bool (nmOk c.to) ∧ Nw W w':=fun W => bname_spec ⟨c.to.toArray⟩ W hst
 by_cases k1:c.kind = 1
 ·have k1':(c.kind == 1) = true:=by simpa using k1
  have k4':(c.kind != 4) = true:=by simp [k1]
  have k8':(c.kind != 8) = true:=by simp [k1]
  have htt:tv = true:=by rw [htv]; simp [toK,k1]
  have ho:ov = passOk c.pass:=by rw [hov,if_pos k1]
  simp -dsimp [go_sem,y0,y1,y2,y3,y4,y5,y6,y7,y8,y9,k4',k8']
  refine call (bx wa) ?_
  rintro v w1 ⟨rfl,kb⟩
  have n1:=k0.nw kb
  have hy1:=hy.nw kb
  clear y0 y1 y2 y3 y4 y5 y6 y7 y8 y9
  have y0:=(hy1).cell 0
  have y1:=(hy1).cell 1
  have y2:=(hy1).cell 2
  have y3:=(hy1).cell 3
  have y4:=(hy1).cell 4
  have y5:=(hy1).cell 5
  have y6:=(hy1).cell 6
  have y7:=(hy1).cell 7
  have y8:=(hy1).cell 8
  have y9:=(hy1).cell 9
  replace y5:=(y5).trans (show _ = some (Value.slice A ul ca) by rw [hul]; rfl)
  replace y9:=(y9).trans (show _ = some (Value.slice B bl cb) by rw [hbl]; rfl)
  simp -dsimp [go_sem,y0,y1,y2,y3,y4,y5,y6,y7,y8,y9,k1']
  refine call (pass_spec c.pass w1 hsp) ?_
  rintro v w2 ⟨rfl,kp⟩
  have n2:=n1.nw kp
  have hy2:=hy1.nw kp
  clear y0 y1 y2 y3 y4 y5 y6 y7 y8 y9
  have y0:=(hy2).cell 0
  have y1:=(hy2).cell 1
  have y2:=(hy2).cell 2
  have y3:=(hy2).cell 3
  have y4:=(hy2).cell 4
  have y5:=(hy2).cell 5
  have y6:=(hy2).cell 6
  have y7:=(hy2).cell 7
  have y8:=(hy2).cell 8
  have y9:=(hy2).cell 9
  replace y5:=(y5).trans (show _ = some (Value.slice A ul ca) by rw [hul]; rfl)
  replace y9:=(y9).trans (show _ = some (Value.slice B bl cb) by rw [hbl]; rfl)
  rw [← ho]
  clear hov htv ho
  simp -dsimp [go_sem,y0,y1,y2,y3,y4,y5,y6,y7,y8,y9]
  refine call (sin_spec c.kind 1 8 w2) ?_
  rintro v wx ⟨rfl,e⟩
  obtain rfl:=e.symm
  cases h1:okF c.kind 1 8 with
  | false =>
   simp -dsimp [go_sem,y0,y1,y2,y3,y4,y5,y6,y7,y8,y9,h1]
   exact n2
  | true =>
   simp -dsimp [go_sem,y0,y1,y2,y3,y4,y5,y6,y7,y8,y9,h1]
   refine call (bname_spec ⟨c.user.toArray⟩ w2 hsu) ?_
   rintro v wu ⟨rfl,ku⟩
   have nU:=Kp.nw n2 ku
   have hyU:=Blk.nw hy2 ku
   clear y0 y1 y2 y3 y4 y5 y6 y7 y8 y9
   have y0:=(hyU).cell 0
   have y1:=(hyU).cell 1
   have y2:=(hyU).cell 2
   have y3:=(hyU).cell 3
   have y4:=(hyU).cell 4
   have y5:=(hyU).cell 5
   have y6:=(hyU).cell 6
   have y7:=(hyU).cell 7
   have y8:=(hyU).cell 8
   have y9:=(hyU).cell 9
   replace y5:=(y5).trans (show _ = some (Value.slice A ul ca) by rw [hul]; rfl)
   replace y9:=(y9).trans (show _ = some (Value.slice B bl cb) by rw [hbl]; rfl)
   rw [show nameOk ⟨c.user.toArray⟩ = nmOk c.user from rfl]
   cases h2:nmOk c.user with
   | false =>
    simp -dsimp [go_sem,y0,y1,y2,y3,y4,y5,y6,y7,y8,y9,h1,h2]
    exact nU
   | true =>
    cases h3:ov with
    | false =>
     simp -dsimp [go_sem,y0,y1,y2,y3,y4,y5,y6,y7,y8,y9,h1,h2,h3]
     exact nU
    | true =>
     cases h4:tv with
     | false =>
      first
      | exact absurd (htt.symm.trans h4) (by simp)
      | (simp -dsimp [go_sem,y0,y1,y2,y3,y4,y5,y6,y7,y8,y9,h1,h2,h3,h4]; exact nU)
     | true =>
      simp -dsimp [go_sem,y0,y1,y2,y3,y4,y5,y6,y7,y8,y9,h1,h2,h3,h4]
      refine call (isNamed_spec _ c wu hV) ?_
      rintro v wn ⟨rfl,kn⟩
      have nN:=nU.nw kn
      have hyN:=hyU.nw kn
      clear y0 y1 y2 y3 y4 y5 y6 y7 y8 y9
      have y0:=(hyN).cell 0
      have y1:=(hyN).cell 1
      have y2:=(hyN).cell 2
      have y3:=(hyN).cell 3
      have y4:=(hyN).cell 4
      have y5:=(hyN).cell 5
      have y6:=(hyN).cell 6
      have y7:=(hyN).cell 7
      have y8:=(hyN).cell 8
      have y9:=(hyN).cell 9
      replace y5:=(y5).trans (show _ = some (Value.slice A ul ca) by rw [hul]; rfl)
      replace y9:=(y9).trans (show _ = some (Value.slice B bl cb) by rw [hbl]; rfl)
      cases h5:namedOk c with
      | false =>
       simp -dsimp [go_sem,y0,y1,y2,y3,y4,y5,y6,y7,y8,y9,h1,h2,h3,h4,h5]
       exact nN
      | true =>
       simp -dsimp [go_sem,y0,y1,y2,y3,y4,y5,y6,y7,y8,y9,h1,h2,h3,h4,h5]
       rw [hul]
       refine call (suids_spec c.uids A ca wn (hrA.nw (nN)) (by omega) hui) ?_
       rintro v wx ⟨rfl,e⟩
       obtain rfl:=e.symm
       cases h6:uidsOk c.uids with
       | false =>
        simp -dsimp [go_sem,y0,y1,y2,y3,y4,y5,y6,y7,y8,y9,h1,h2,h3,h4,h5,h6]
        exact nN
       | true =>
        simp -dsimp [go_sem,y0,y1,y2,y3,y4,y5,y6,y7,y8,y9,h1,h2,h3,h4,h5,h6]
        refine call (sin_spec c.mode 0 2 wn) ?_
        rintro v wx ⟨rfl,e⟩
        obtain rfl:=e.symm
        cases h7:okF c.mode 0 2 with
        | false =>
         simp -dsimp [go_sem,y0,y1,y2,y3,y4,y5,y6,y7,y8,y9,h1,h2,h3,h4,h5,h6,h7]
         exact nN
        | true =>
         simp -dsimp [go_sem,y0,y1,y2,y3,y4,y5,y6,y7,y8,y9,h1,h2,h3,h4,h5,h6,h7]
         refine call (sin_spec c.flags 0 31 wn) ?_
         rintro v wx ⟨rfl,e⟩
         obtain rfl:=e.symm
         cases h8:okF c.flags 0 31 with
         | false =>
          simp -dsimp [go_sem,y0,y1,y2,y3,y4,y5,y6,y7,y8,y9,h1,h2,h3,h4,h5,h6,h7,h8]
          exact nN
         | true =>
          simp -dsimp [go_sem,y0,y1,y2,y3,y4,y5,y6,y7,y8,y9,h1,h2,h3,h4,h5,h6,h7,h8]
          refine call (sin_spec c.date 0 1073741824 wn) ?_
          rintro v wx ⟨rfl,e⟩
          obtain rfl:=e.symm
          cases h9:okF c.date 0 1073741824 with
          | false =>
           simp -dsimp [go_sem,y0,y1,y2,y3,y4,y5,y6,y7,y8,y9,h1,h2,h3,h4,h5,h6,h7,h8,h9]
           exact nN
          | true =>
           by_cases h10:bl ≤ 1200
           ·have h10':(bl:Int) ≤ 1200:=by omega
            simp -dsimp [go_sem,y0,y1,y2,y3,y4,y5,y6,y7,y8,y9,h1,h2,h3,h4,h5,h6,h7,h8,h9,h10,h10']
            exact nN
           ·have h10':¬ (bl:Int) ≤ 1200:=by omega
            simp -dsimp [go_sem,y0,y1,y2,y3,y4,y5,y6,y7,y8,y9,h1,h2,h3,h4,h5,h6,h7,h8,h9,h10,h10']
            exact nN
 ·have k1':(c.kind == 1) = false:=by simpa using k1
  have ho:ov = nmOk c.box:=by rw [hov,if_neg k1]
  by_cases k48:toK c.kind = true
  ·have ht:tv = nmOk c.to:=by rw [htv,k48]; rfl
   have hb:(c.kind != 4) = false ∨ ((c.kind != 4) = true ∧ (c.kind != 8) = false):=by
    unfold toK at k48
    by_cases k4:c.kind = 4
    ·left; simp [k4]
    ·right
     have:c.kind = 8:=by simpa [k4] using k48
     simp [this]
   rcases hb with k4' | ⟨k4',k8'⟩
   ·simp -dsimp [go_sem,y0,y1,y2,y3,y4,y5,y6,y7,y8,y9,k4']
    refine call (bt wa) ?_
    rintro v w1 ⟨rfl,kb⟩
    have n1:=k0.nw kb
    have hy1:=hy.nw kb
    clear y0 y1 y2 y3 y4 y5 y6 y7 y8 y9
    have y0:=(hy1).cell 0
    have y1:=(hy1).cell 1
    have y2:=(hy1).cell 2
    have y3:=(hy1).cell 3
    have y4:=(hy1).cell 4
    have y5:=(hy1).cell 5
    have y6:=(hy1).cell 6
    have y7:=(hy1).cell 7
    have y8:=(hy1).cell 8
    have y9:=(hy1).cell 9
    replace y5:=(y5).trans (show _ = some (Value.slice A ul ca) by rw [hul]; rfl)
    replace y9:=(y9).trans (show _ = some (Value.slice B bl cb) by rw [hbl]; rfl)
    rw [← ht]
    simp -dsimp [go_sem,y0,y1,y2,y3,y4,y5,y6,y7,y8,y9]
    refine call (bx w1) ?_
    rintro v w2 ⟨rfl,kb2⟩
    have n2:=n1.nw kb2
    have hy2:=hy1.nw kb2
    clear y0 y1 y2 y3 y4 y5 y6 y7 y8 y9
    have y0:=(hy2).cell 0
    have y1:=(hy2).cell 1
    have y2:=(hy2).cell 2
    have y3:=(hy2).cell 3
    have y4:=(hy2).cell 4
    have y5:=(hy2).cell 5
    have y6:=(hy2).cell 6
    have y7:=(hy2).cell 7
    have y8:=(hy2).cell 8
    have y9:=(hy2).cell 9
    replace y5:=(y5).trans (show _ = some (Value.slice A ul ca) by rw [hul]; rfl)
    replace y9:=(y9).trans (show _ = some (Value.slice B bl cb) by rw [hbl]; rfl)
    rw [← ho]
    clear hov htv ho ht
    simp -dsimp [go_sem,y0,y1,y2,y3,y4,y5,y6,y7,y8,y9,k1']
    refine call (sin_spec c.kind 1 8 w2) ?_
    rintro v wx ⟨rfl,e⟩
    obtain rfl:=e.symm
    cases h1:okF c.kind 1 8 with
    | false =>
     simp -dsimp [go_sem,y0,y1,y2,y3,y4,y5,y6,y7,y8,y9,h1]
     exact n2
    | true =>
     simp -dsimp [go_sem,y0,y1,y2,y3,y4,y5,y6,y7,y8,y9,h1]
     refine call (bname_spec ⟨c.user.toArray⟩ w2 hsu) ?_
     rintro v wu ⟨rfl,ku⟩
     have nU:=Kp.nw n2 ku
     have hyU:=Blk.nw hy2 ku
     clear y0 y1 y2 y3 y4 y5 y6 y7 y8 y9
     have y0:=(hyU).cell 0
     have y1:=(hyU).cell 1
     have y2:=(hyU).cell 2
     have y3:=(hyU).cell 3
     have y4:=(hyU).cell 4
     have y5:=(hyU).cell 5
     have y6:=(hyU).cell 6
     have y7:=(hyU).cell 7
     have y8:=(hyU).cell 8
     have y9:=(hyU).cell 9
     replace y5:=(y5).trans (show _ = some (Value.slice A ul ca) by rw [hul]; rfl)
     replace y9:=(y9).trans (show _ = some (Value.slice B bl cb) by rw [hbl]; rfl)
     rw [show nameOk ⟨c.user.toArray⟩ = nmOk c.user from rfl]
     cases h2:nmOk c.user with
     | false =>
      simp -dsimp [go_sem,y0,y1,y2,y3,y4,y5,y6,y7,y8,y9,h1,h2]
      exact nU
     | true =>
      cases h3:ov with
      | false =>
       simp -dsimp [go_sem,y0,y1,y2,y3,y4,y5,y6,y7,y8,y9,h1,h2,h3]
       exact nU
      | true =>
       cases h4:tv with
       | false =>
        first
        | exact absurd (htt.symm.trans h4) (by simp)
        | (simp -dsimp [go_sem,y0,y1,y2,y3,y4,y5,y6,y7,y8,y9,h1,h2,h3,h4]; exact nU)
       | true =>
        simp -dsimp [go_sem,y0,y1,y2,y3,y4,y5,y6,y7,y8,y9,h1,h2,h3,h4]
        refine call (isNamed_spec _ c wu hV) ?_
        rintro v wn ⟨rfl,kn⟩
        have nN:=nU.nw kn
        have hyN:=hyU.nw kn
        clear y0 y1 y2 y3 y4 y5 y6 y7 y8 y9
        have y0:=(hyN).cell 0
        have y1:=(hyN).cell 1
        have y2:=(hyN).cell 2
        have y3:=(hyN).cell 3
        have y4:=(hyN).cell 4
        have y5:=(hyN).cell 5
        have y6:=(hyN).cell 6
        have y7:=(hyN).cell 7
        have y8:=(hyN).cell 8
        have y9:=(hyN).cell 9
        replace y5:=(y5).trans (show _ = some (Value.slice A ul ca) by rw [hul]; rfl)
        replace y9:=(y9).trans (show _ = some (Value.slice B bl cb) by rw [hbl]; rfl)
        cases h5:namedOk c with
        | false =>
         simp -dsimp [go_sem,y0,y1,y2,y3,y4,y5,y6,y7,y8,y9,h1,h2,h3,h4,h5]
         exact nN
        | true =>
         simp -dsimp [go_sem,y0,y1,y2,y3,y4,y5,y6,y7,y8,y9,h1,h2,h3,h4,h5]
         rw [hul]
         refine call (suids_spec c.uids A ca wn (hrA.nw (nN)) (by omega) hui) ?_
         rintro v wx ⟨rfl,e⟩
         obtain rfl:=e.symm
         cases h6:uidsOk c.uids with
         | false =>
          simp -dsimp [go_sem,y0,y1,y2,y3,y4,y5,y6,y7,y8,y9,h1,h2,h3,h4,h5,h6]
          exact nN
         | true =>
          simp -dsimp [go_sem,y0,y1,y2,y3,y4,y5,y6,y7,y8,y9,h1,h2,h3,h4,h5,h6]
          refine call (sin_spec c.mode 0 2 wn) ?_
          rintro v wx ⟨rfl,e⟩
          obtain rfl:=e.symm
          cases h7:okF c.mode 0 2 with
          | false =>
           simp -dsimp [go_sem,y0,y1,y2,y3,y4,y5,y6,y7,y8,y9,h1,h2,h3,h4,h5,h6,h7]
           exact nN
          | true =>
           simp -dsimp [go_sem,y0,y1,y2,y3,y4,y5,y6,y7,y8,y9,h1,h2,h3,h4,h5,h6,h7]
           refine call (sin_spec c.flags 0 31 wn) ?_
           rintro v wx ⟨rfl,e⟩
           obtain rfl:=e.symm
           cases h8:okF c.flags 0 31 with
           | false =>
            simp -dsimp [go_sem,y0,y1,y2,y3,y4,y5,y6,y7,y8,y9,h1,h2,h3,h4,h5,h6,h7,h8]
            exact nN
           | true =>
            simp -dsimp [go_sem,y0,y1,y2,y3,y4,y5,y6,y7,y8,y9,h1,h2,h3,h4,h5,h6,h7,h8]
            refine call (sin_spec c.date 0 1073741824 wn) ?_
            rintro v wx ⟨rfl,e⟩
            obtain rfl:=e.symm
            cases h9:okF c.date 0 1073741824 with
            | false =>
             simp -dsimp [go_sem,y0,y1,y2,y3,y4,y5,y6,y7,y8,y9,h1,h2,h3,h4,h5,h6,h7,h8,h9]
             exact nN
            | true =>
             by_cases h10:bl ≤ 1200
             ·have h10':(bl:Int) ≤ 1200:=by omega
              simp -dsimp [go_sem,y0,y1,y2,y3,y4,y5,y6,y7,y8,y9,h1,h2,h3,h4,h5,h6,h7,h8,h9,h10,h10']
              exact nN
             ·have h10':¬ (bl:Int) ≤ 1200:=by omega
              simp -dsimp [go_sem,y0,y1,y2,y3,y4,y5,y6,y7,y8,y9,h1,h2,h3,h4,h5,h6,h7,h8,h9,h10,h10']
              exact nN
   ·simp -dsimp [go_sem,y0,y1,y2,y3,y4,y5,y6,y7,y8,y9,k4',k8']
    refine call (bt wa) ?_
    rintro v w1 ⟨rfl,kb⟩
    have n1:=k0.nw kb
    have hy1:=hy.nw kb
    clear y0 y1 y2 y3 y4 y5 y6 y7 y8 y9
    have y0:=(hy1).cell 0
    have y1:=(hy1).cell 1
    have y2:=(hy1).cell 2
    have y3:=(hy1).cell 3
    have y4:=(hy1).cell 4
    have y5:=(hy1).cell 5
    have y6:=(hy1).cell 6
    have y7:=(hy1).cell 7
    have y8:=(hy1).cell 8
    have y9:=(hy1).cell 9
    replace y5:=(y5).trans (show _ = some (Value.slice A ul ca) by rw [hul]; rfl)
    replace y9:=(y9).trans (show _ = some (Value.slice B bl cb) by rw [hbl]; rfl)
    rw [← ht]
    simp -dsimp [go_sem,y0,y1,y2,y3,y4,y5,y6,y7,y8,y9]
    refine call (bx w1) ?_
    rintro v w2 ⟨rfl,kb2⟩
    have n2:=n1.nw kb2
    have hy2:=hy1.nw kb2
    clear y0 y1 y2 y3 y4 y5 y6 y7 y8 y9
    have y0:=(hy2).cell 0
    have y1:=(hy2).cell 1
    have y2:=(hy2).cell 2
    have y3:=(hy2).cell 3
    have y4:=(hy2).cell 4
    have y5:=(hy2).cell 5
    have y6:=(hy2).cell 6
    have y7:=(hy2).cell 7
    have y8:=(hy2).cell 8
    have y9:=(hy2).cell 9
    replace y5:=(y5).trans (show _ = some (Value.slice A ul ca) by rw [hul]; rfl)
    replace y9:=(y9).trans (show _ = some (Value.slice B bl cb) by rw [hbl]; rfl)
    rw [← ho]
    clear hov htv ho ht
    simp -dsimp [go_sem,y0,y1,y2,y3,y4,y5,y6,y7,y8,y9,k1']
    refine call (sin_spec c.kind 1 8 w2) ?_
    rintro v wx ⟨rfl,e⟩
    obtain rfl:=e.symm
    cases h1:okF c.kind 1 8 with
    | false =>
     simp -dsimp [go_sem,y0,y1,y2,y3,y4,y5,y6,y7,y8,y9,h1]
     exact n2
    | true =>
     simp -dsimp [go_sem,y0,y1,y2,y3,y4,y5,y6,y7,y8,y9,h1]
     refine call (bname_spec ⟨c.user.toArray⟩ w2 hsu) ?_
     rintro v wu ⟨rfl,ku⟩
     have nU:=Kp.nw n2 ku
     have hyU:=Blk.nw hy2 ku
     clear y0 y1 y2 y3 y4 y5 y6 y7 y8 y9
     have y0:=(hyU).cell 0
     have y1:=(hyU).cell 1
     have y2:=(hyU).cell 2
     have y3:=(hyU).cell 3
     have y4:=(hyU).cell 4
     have y5:=(hyU).cell 5
     have y6:=(hyU).cell 6
     have y7:=(hyU).cell 7
     have y8:=(hyU).cell 8
     have y9:=(hyU).cell 9
     replace y5:=(y5).trans (show _ = some (Value.slice A ul ca) by rw [hul]; rfl)
     replace y9:=(y9).trans (show _ = some (Value.slice B bl cb) by rw [hbl]; rfl)
     rw [show nameOk ⟨c.user.toArray⟩ = nmOk c.user from rfl]
     cases h2:nmOk c.user with
     | false =>
      simp -dsimp [go_sem,y0,y1,y2,y3,y4,y5,y6,y7,y8,y9,h1,h2]
      exact nU
     | true =>
      cases h3:ov with
      | false =>
       simp -dsimp [go_sem,y0,y1,y2,y3,y4,y5,y6,y7,y8,y9,h1,h2,h3]
       exact nU
      | true =>
       cases h4:tv with
       | false =>
        first
        | exact absurd (htt.symm.trans h4) (by simp)
        | (simp -dsimp [go_sem,y0,y1,y2,y3,y4,y5,y6,y7,y8,y9,h1,h2,h3,h4]; exact nU)
       | true =>
        simp -dsimp [go_sem,y0,y1,y2,y3,y4,y5,y6,y7,y8,y9,h1,h2,h3,h4]
        refine call (isNamed_spec _ c wu hV) ?_
        rintro v wn ⟨rfl,kn⟩
        have nN:=nU.nw kn
        have hyN:=hyU.nw kn
        clear y0 y1 y2 y3 y4 y5 y6 y7 y8 y9
        have y0:=(hyN).cell 0
        have y1:=(hyN).cell 1
        have y2:=(hyN).cell 2
        have y3:=(hyN).cell 3
        have y4:=(hyN).cell 4
        have y5:=(hyN).cell 5
        have y6:=(hyN).cell 6
        have y7:=(hyN).cell 7
        have y8:=(hyN).cell 8
        have y9:=(hyN).cell 9
        replace y5:=(y5).trans (show _ = some (Value.slice A ul ca) by rw [hul]; rfl)
        replace y9:=(y9).trans (show _ = some (Value.slice B bl cb) by rw [hbl]; rfl)
        cases h5:namedOk c with
        | false =>
         simp -dsimp [go_sem,y0,y1,y2,y3,y4,y5,y6,y7,y8,y9,h1,h2,h3,h4,h5]
         exact nN
        | true =>
         simp -dsimp [go_sem,y0,y1,y2,y3,y4,y5,y6,y7,y8,y9,h1,h2,h3,h4,h5]
         rw [hul]
         refine call (suids_spec c.uids A ca wn (hrA.nw (nN)) (by omega) hui) ?_
         rintro v wx ⟨rfl,e⟩
         obtain rfl:=e.symm
         cases h6:uidsOk c.uids with
         | false =>
          simp -dsimp [go_sem,y0,y1,y2,y3,y4,y5,y6,y7,y8,y9,h1,h2,h3,h4,h5,h6]
          exact nN
         | true =>
          simp -dsimp [go_sem,y0,y1,y2,y3,y4,y5,y6,y7,y8,y9,h1,h2,h3,h4,h5,h6]
          refine call (sin_spec c.mode 0 2 wn) ?_
          rintro v wx ⟨rfl,e⟩
          obtain rfl:=e.symm
          cases h7:okF c.mode 0 2 with
          | false =>
           simp -dsimp [go_sem,y0,y1,y2,y3,y4,y5,y6,y7,y8,y9,h1,h2,h3,h4,h5,h6,h7]
           exact nN
          | true =>
           simp -dsimp [go_sem,y0,y1,y2,y3,y4,y5,y6,y7,y8,y9,h1,h2,h3,h4,h5,h6,h7]
           refine call (sin_spec c.flags 0 31 wn) ?_
           rintro v wx ⟨rfl,e⟩
           obtain rfl:=e.symm
           cases h8:okF c.flags 0 31 with
           | false =>
            simp -dsimp [go_sem,y0,y1,y2,y3,y4,y5,y6,y7,y8,y9,h1,h2,h3,h4,h5,h6,h7,h8]
            exact nN
           | true =>
            simp -dsimp [go_sem,y0,y1,y2,y3,y4,y5,y6,y7,y8,y9,h1,h2,h3,h4,h5,h6,h7,h8]
            refine call (sin_spec c.date 0 1073741824 wn) ?_
            rintro v wx ⟨rfl,e⟩
            obtain rfl:=e.symm
            cases h9:okF c.date 0 1073741824 with
            | false =>
             simp -dsimp [go_sem,y0,y1,y2,y3,y4,y5,y6,y7,y8,y9,h1,h2,h3,h4,h5,h6,h7,h8,h9]
             exact nN
            | true =>
             by_cases h10:bl ≤ 1200
             ·have h10':(bl:Int) ≤ 1200:=by omega
              simp -dsimp [go_sem,y0,y1,y2,y3,y4,y5,y6,y7,y8,y9,h1,h2,h3,h4,h5,h6,h7,h8,h9,h10,h10']
              exact nN
             ·have h10':¬ (bl:Int) ≤ 1200:=by omega
              simp -dsimp [go_sem,y0,y1,y2,y3,y4,y5,y6,y7,y8,y9,h1,h2,h3,h4,h5,h6,h7,h8,h9,h10,h10']
              exact nN
  ·have htt:tv = true:=by rw [htv]; simp [k48]
   have k4':(c.kind != 4) = true:=by
    unfold toK at k48; simp at k48; simp [k48.1]
   have k8':(c.kind != 8) = true:=by
    unfold toK at k48; simp at k48; simp [k48.2]
   simp -dsimp [go_sem,y0,y1,y2,y3,y4,y5,y6,y7,y8,y9,k4',k8']
   refine call (bx wa) ?_
   rintro v w1 ⟨rfl,kb⟩
   have n1:=k0.nw kb
   have hy1:=hy.nw kb
   clear y0 y1 y2 y3 y4 y5 y6 y7 y8 y9
   have y0:=(hy1).cell 0
   have y1:=(hy1).cell 1
   have y2:=(hy1).cell 2
   have y3:=(hy1).cell 3
   have y4:=(hy1).cell 4
   have y5:=(hy1).cell 5
   have y6:=(hy1).cell 6
   have y7:=(hy1).cell 7
   have y8:=(hy1).cell 8
   have y9:=(hy1).cell 9
   replace y5:=(y5).trans (show _ = some (Value.slice A ul ca) by rw [hul]; rfl)
   replace y9:=(y9).trans (show _ = some (Value.slice B bl cb) by rw [hbl]; rfl)
   rw [← ho]
   clear hov htv ho
   simp -dsimp [go_sem,y0,y1,y2,y3,y4,y5,y6,y7,y8,y9,k1']
   refine call (sin_spec c.kind 1 8 w1) ?_
   rintro v wx ⟨rfl,e⟩
   obtain rfl:=e.symm
   cases h1:okF c.kind 1 8 with
   | false =>
    simp -dsimp [go_sem,y0,y1,y2,y3,y4,y5,y6,y7,y8,y9,h1]
    exact n1
   | true =>
    simp -dsimp [go_sem,y0,y1,y2,y3,y4,y5,y6,y7,y8,y9,h1]
    refine call (bname_spec ⟨c.user.toArray⟩ w1 hsu) ?_
    rintro v wu ⟨rfl,ku⟩
    have nU:=Kp.nw n1 ku
    have hyU:=Blk.nw hy1 ku
    clear y0 y1 y2 y3 y4 y5 y6 y7 y8 y9
    have y0:=(hyU).cell 0
    have y1:=(hyU).cell 1
    have y2:=(hyU).cell 2
    have y3:=(hyU).cell 3
    have y4:=(hyU).cell 4
    have y5:=(hyU).cell 5
    have y6:=(hyU).cell 6
    have y7:=(hyU).cell 7
    have y8:=(hyU).cell 8
    have y9:=(hyU).cell 9
    replace y5:=(y5).trans (show _ = some (Value.slice A ul ca) by rw [hul]; rfl)
    replace y9:=(y9).trans (show _ = some (Value.slice B bl cb) by rw [hbl]; rfl)
    rw [show nameOk ⟨c.user.toArray⟩ = nmOk c.user from rfl]
    cases h2:nmOk c.user with
    | false =>
     simp -dsimp [go_sem,y0,y1,y2,y3,y4,y5,y6,y7,y8,y9,h1,h2]
     exact nU
    | true =>
     cases h3:ov with
     | false =>
      simp -dsimp [go_sem,y0,y1,y2,y3,y4,y5,y6,y7,y8,y9,h1,h2,h3]
      exact nU
     | true =>
      cases h4:tv with
      | false =>
       first
       | exact absurd (htt.symm.trans h4) (by simp)
       | (simp -dsimp [go_sem,y0,y1,y2,y3,y4,y5,y6,y7,y8,y9,h1,h2,h3,h4]; exact nU)
      | true =>
       simp -dsimp [go_sem,y0,y1,y2,y3,y4,y5,y6,y7,y8,y9,h1,h2,h3,h4]
       refine call (isNamed_spec _ c wu hV) ?_
       rintro v wn ⟨rfl,kn⟩
       have nN:=nU.nw kn
       have hyN:=hyU.nw kn
       clear y0 y1 y2 y3 y4 y5 y6 y7 y8 y9
       have y0:=(hyN).cell 0
       have y1:=(hyN).cell 1
       have y2:=(hyN).cell 2
       have y3:=(hyN).cell 3
       have y4:=(hyN).cell 4
       have y5:=(hyN).cell 5
       have y6:=(hyN).cell 6
       have y7:=(hyN).cell 7
       have y8:=(hyN).cell 8
       have y9:=(hyN).cell 9
       replace y5:=(y5).trans (show _ = some (Value.slice A ul ca) by rw [hul]; rfl)
       replace y9:=(y9).trans (show _ = some (Value.slice B bl cb) by rw [hbl]; rfl)
       cases h5:namedOk c with
       | false =>
        simp -dsimp [go_sem,y0,y1,y2,y3,y4,y5,y6,y7,y8,y9,h1,h2,h3,h4,h5]
        exact nN
       | true =>
        simp -dsimp [go_sem,y0,y1,y2,y3,y4,y5,y6,y7,y8,y9,h1,h2,h3,h4,h5]
        rw [hul]
        refine call (suids_spec c.uids A ca wn (hrA.nw (nN)) (by omega) hui) ?_
        rintro v wx ⟨rfl,e⟩
        obtain rfl:=e.symm
        cases h6:uidsOk c.uids with
        | false =>
         simp -dsimp [go_sem,y0,y1,y2,y3,y4,y5,y6,y7,y8,y9,h1,h2,h3,h4,h5,h6]
         exact nN
        | true =>
         simp -dsimp [go_sem,y0,y1,y2,y3,y4,y5,y6,y7,y8,y9,h1,h2,h3,h4,h5,h6]
         refine call (sin_spec c.mode 0 2 wn) ?_
         rintro v wx ⟨rfl,e⟩
         obtain rfl:=e.symm
         cases h7:okF c.mode 0 2 with
         | false =>
          simp -dsimp [go_sem,y0,y1,y2,y3,y4,y5,y6,y7,y8,y9,h1,h2,h3,h4,h5,h6,h7]
          exact nN
         | true =>
          simp -dsimp [go_sem,y0,y1,y2,y3,y4,y5,y6,y7,y8,y9,h1,h2,h3,h4,h5,h6,h7]
          refine call (sin_spec c.flags 0 31 wn) ?_
          rintro v wx ⟨rfl,e⟩
          obtain rfl:=e.symm
          cases h8:okF c.flags 0 31 with
          | false =>
           simp -dsimp [go_sem,y0,y1,y2,y3,y4,y5,y6,y7,y8,y9,h1,h2,h3,h4,h5,h6,h7,h8]
           exact nN
          | true =>
           simp -dsimp [go_sem,y0,y1,y2,y3,y4,y5,y6,y7,y8,y9,h1,h2,h3,h4,h5,h6,h7,h8]
           refine call (sin_spec c.date 0 1073741824 wn) ?_
           rintro v wx ⟨rfl,e⟩
           obtain rfl:=e.symm
           cases h9:okF c.date 0 1073741824 with
           | false =>
            simp -dsimp [go_sem,y0,y1,y2,y3,y4,y5,y6,y7,y8,y9,h1,h2,h3,h4,h5,h6,h7,h8,h9]
            exact nN
           | true =>
            by_cases h10:bl ≤ 1200
            ·have h10':(bl:Int) ≤ 1200:=by omega
             simp -dsimp [go_sem,y0,y1,y2,y3,y4,y5,y6,y7,y8,y9,h1,h2,h3,h4,h5,h6,h7,h8,h9,h10,h10']
             exact nN
            ·have h10':¬ (bl:Int) ≤ 1200:=by omega
             simp -dsimp [go_sem,y0,y1,y2,y3,y4,y5,y6,y7,y8,y9,h1,h2,h3,h4,h5,h6,h7,h8,h9,h10,h10']
             exact nN
end Go.Proofs.YtellahclbhfdiaaGreatDoor
