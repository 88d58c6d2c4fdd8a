/-
  The reference's Is, walked. By the session itself.
-/
import Derived.Test.YtellahclbhfdiaaGreatDoorQ20
import Derived.Test.YtellahclbhfdiaaGreatDoorQ06
namespace Go.Proofs.YtellahclbhfdiaaGreatDoor
set_option linter.unusedSimpArgs false
set_option linter.unusedVariables false
set_option maxRecDepth 100000
set_option maxHeartbeats 2000000
open Go.Vc Go.RowKit
section
variable {us ps bx to:Nm} {ul:List Int} {m f d:Int} {bd:List UInt8}
theorem chg1_eq:chgOk ⟨1,us,ps,bx,to,ul,m,f,d,bd⟩ = (nmOk us && ((!ps.isEmpty && (passOk ps && bx.isEmpty)) && (to.isEmpty && (uidsOk ul && (!decide (0 < ul.length) && (okF m 0 2 && (okF f 0 31 && (okF d 0 1073741824 && (!decide ((1200:Int) < (bd.length:Int)) && ((m == 0) && ((f == 0) && ((d == 0) && ((bd.length:Int) == 0))))))))))))):=by
 have e1:passOk ps = true → ps ≠ []:=fun h e => by subst e; cases h
 have e2:nmOk bx = true → bx ≠ []:=fun h e => by have:=nmOk_len h; subst e; simp at this
 rw [Bool.eq_iff_iff]
 simp [chgOk,namedOk,okF,toK,manyK]
 grind
theorem chg2_eq:chgOk ⟨2,us,ps,bx,to,ul,m,f,d,bd⟩ = (nmOk us && ((ps.isEmpty && (!bx.isEmpty && nmOk bx)) && (to.isEmpty && (uidsOk ul && (!decide (0 < ul.length) && (okF m 0 2 && (okF f 0 31 && (okF d 0 1073741824 && (!decide ((1200:Int) < (bd.length:Int)) && ((m == 0) && ((f == 0) && ((d == 0) && ((bd.length:Int) == 0))))))))))))):=by
 have e1:passOk ps = true → ps ≠ []:=fun h e => by subst e; cases h
 have e2:nmOk bx = true → bx ≠ []:=fun h e => by have:=nmOk_len h; subst e; simp at this
 rw [Bool.eq_iff_iff]
 simp [chgOk,namedOk,okF,toK,manyK]
 grind
theorem chg3_eq:chgOk ⟨3,us,ps,bx,to,ul,m,f,d,bd⟩ = (nmOk us && ((ps.isEmpty && (!bx.isEmpty && nmOk bx)) && (to.isEmpty && (uidsOk ul && (!decide (0 < ul.length) && (okF m 0 2 && (okF f 0 31 && (okF d 0 1073741824 && (!decide ((1200:Int) < (bd.length:Int)) && ((m == 0) && ((f == 0) && ((d == 0) && ((bd.length:Int) == 0))))))))))))):=by
 have e1:passOk ps = true → ps ≠ []:=fun h e => by subst e; cases h
 have e2:nmOk bx = true → bx ≠ []:=fun h e => by have:=nmOk_len h; subst e; simp at this
 rw [Bool.eq_iff_iff]
 simp [chgOk,namedOk,okF,toK,manyK]
 grind
theorem chg4_eq:chgOk ⟨4,us,ps,bx,to,ul,m,f,d,bd⟩ = (nmOk us && ((ps.isEmpty && (!bx.isEmpty && nmOk bx)) && (nmOk to && (uidsOk ul && (!decide (0 < ul.length) && (okF m 0 2 && (okF f 0 31 && (okF d 0 1073741824 && (!decide ((1200:Int) < (bd.length:Int)) && ((m == 0) && ((f == 0) && ((d == 0) && ((bd.length:Int) == 0))))))))))))):=by
 have e1:passOk ps = true → ps ≠ []:=fun h e => by subst e; cases h
 have e2:nmOk bx = true → bx ≠ []:=fun h e => by have:=nmOk_len h; subst e; simp at this
 rw [Bool.eq_iff_iff]
 simp [chgOk,namedOk,okF,toK,manyK]
 grind
theorem chg5_eq:chgOk ⟨5,us,ps,bx,to,ul,m,f,d,bd⟩ = (nmOk us && ((ps.isEmpty && (!bx.isEmpty && nmOk bx)) && (to.isEmpty && (uidsOk ul && (!decide (0 < ul.length) && (okF m 0 2 && (okF f 0 31 && (okF d 0 1073741824 && (!decide ((1200:Int) < (bd.length:Int)) && (m == 0)))))))))):=by
 have e1:passOk ps = true → ps ≠ []:=fun h e => by subst e; cases h
 have e2:nmOk bx = true → bx ≠ []:=fun h e => by have:=nmOk_len h; subst e; simp at this
 rw [Bool.eq_iff_iff]
 simp [chgOk,namedOk,okF,toK,manyK]
 grind
theorem chg6_eq:chgOk ⟨6,us,ps,bx,to,ul,m,f,d,bd⟩ = (nmOk us && ((ps.isEmpty && (!bx.isEmpty && nmOk bx)) && (to.isEmpty && (uidsOk ul && (true && (okF m 0 2 && (okF f 0 31 && (okF d 0 1073741824 && (!decide ((1200:Int) < (bd.length:Int)) && ((d == 0) && ((bd.length:Int) == 0))))))))))):=by
 have e1:passOk ps = true → ps ≠ []:=fun h e => by subst e; cases h
 have e2:nmOk bx = true → bx ≠ []:=fun h e => by have:=nmOk_len h; subst e; simp at this
 rw [Bool.eq_iff_iff]
 simp [chgOk,namedOk,okF,toK,manyK]
 grind
theorem chg7_eq:chgOk ⟨7,us,ps,bx,to,ul,m,f,d,bd⟩ = (nmOk us && ((ps.isEmpty && (!bx.isEmpty && nmOk bx)) && (to.isEmpty && (uidsOk ul && (true && (okF m 0 2 && (okF f 0 31 && (okF d 0 1073741824 && (!decide ((1200:Int) < (bd.length:Int)) && ((m == 0) && ((f == 0) && ((d == 0) && ((bd.length:Int) == 0))))))))))))):=by
 have e1:passOk ps = true → ps ≠ []:=fun h e => by subst e; cases h
 have e2:nmOk bx = true → bx ≠ []:=fun h e => by have:=nmOk_len h; subst e; simp at this
 rw [Bool.eq_iff_iff]
 simp [chgOk,namedOk,okF,toK,manyK]
 grind
theorem chg8_eq:chgOk ⟨8,us,ps,bx,to,ul,m,f,d,bd⟩ = (nmOk us && ((ps.isEmpty && (!bx.isEmpty && nmOk bx)) && (nmOk to && (uidsOk ul && (true && (okF m 0 2 && (okF f 0 31 && (okF d 0 1073741824 && (!decide ((1200:Int) < (bd.length:Int)) && ((m == 0) && ((f == 0) && ((d == 0) && ((bd.length:Int) == 0))))))))))))):=by
 have e1:passOk ps = true → ps ≠ []:=fun h e => by subst e; cases h
 have e2:nmOk bx = true → bx ≠ []:=fun h e => by have:=nmOk_len h; subst e; simp at this
 rw [Bool.eq_iff_iff]
 simp [chgOk,namedOk,okF,toK,manyK]
 grind
end
theorem rcIs_spec (v:Value) (c:Chg) (w:World) (S:Nat → Prop) (h:RC w v c S) (hu:c.user.length ≤ 9223372036854775807) (hp:c.pass.length ≤ 9223372036854775807) (hb:c.box.length ≤ 9223372036854775807) (ht:c.to.length ≤ 9223372036854775807) (hl:c.uids.length ≤ 9223372036854775807) (hbl:c.body.length ≤ 9223372036854775807) :
  Cal Tryz.prog 14 #[v] w fun v w' => v = .bool (chgOk c) ∧ Nw w w':=by
 obtain ⟨A,ca,B,cb,rfl,hca,hcb,hr,ho,hrb,hob⟩:=h
 obtain ⟨k,us,ps,bx,to,ul,m,f,d,bd⟩:=c
 simp only at hu hp hb ht hl hbl hr hrb hca hcb
 unfold chV
 simp only
 refine enter Tryz.mixed Tryz.func14 rfl (by kernel_rfl) ?_
 have n0:Nw w (w.alloc (.cells #[i64 k,str us,str ps,str bx,str to,.slice A ul.length ca,i64 m,i64 f,i64 d,.slice B bd.length cb] 25)):=(Kp.refl _ _).alloc _
 by_cases k1:k < 1
 ·have hno:chgOk ⟨k,us,ps,bx,to,ul,m,f,d,bd⟩ = false:=by simp [chgOk,okF]; omega
  simp -dsimp [go_sem,k1,hno]
  exact n0
 by_cases k8:8 < k
 ·have hno:chgOk ⟨k,us,ps,bx,to,ul,m,f,d,bd⟩ = false:=by simp [chgOk,okF]; omega
  simp -dsimp [go_sem,k1,k8,hno]
  exact n0
 simp -dsimp [go_sem,k1,k8]
 refine call (rname_spec ⟨us.toArray⟩ _ (by simp [ByteArray.size]; omega)) ?_
 rintro v w2 ⟨rfl,rfl⟩
 rw [show nameOk ⟨us.toArray⟩ = nmOk us from rfl]
 have hx:=Blk.new w 25 #[i64 k,str us,str ps,str bx,str to,.slice A ul.length ca,i64 m,i64 f,i64 d,.slice B bd.length cb]
 have hr:=hr.nw n0
 have p2:=hx.cell 2
 have p3:=hx.cell 3
 have p4:=hx.cell 4
 have p5:=hx.cell 5
 have p6:=hx.cell 6
 have p7:=hx.cell 7
 have p8:=hx.cell 8
 have p9:=hx.cell 9
 generalize w.alloc (.cells #[i64 k,str us,str ps,str bx,str to,.slice A ul.length ca,i64 m,i64 f,i64 d,.slice B bd.length cb] 25) = wb at *
 generalize w.heap.size = x at *
 cases hU:nmOk us with
 | false =>
  have hno:chgOk ⟨k,us,ps,bx,to,ul,m,f,d,bd⟩ = false:=by simp [chgOk,hU]
  simp -dsimp [go_sem,hno]
  exact n0
 | true =>
  obtain rfl | rfl | rfl | rfl | rfl | rfl | rfl | rfl:k = 1 ∨ k = 2 ∨ k = 3 ∨ k = 4 ∨ k = 5 ∨ k = 6 ∨ k = 7 ∨ k = 8:=by omega
  ·skip
   cases hpe:ps.isEmpty with
   | true =>
    simp -dsimp [go_sem,hU,hpe,p2,p3,p4,p5,p6,p7,p8,p9]
    exact ⟨by rw [chg1_eq]; simp only [hU,hpe,Bool.and_false,Bool.false_and,Bool.and_true,Bool.true_and,Bool.not_true,Bool.not_false],n0⟩
   | false =>
    simp -dsimp [go_sem,hpe,p2,p3,p4,p5,p6,p7,p8,p9]
    refine call (rpass14_spec ps _ hp) ?_
    rintro v w2 ⟨rfl,rfl⟩
    cases hpk:passOk ps with
    | false =>
     simp -dsimp [go_sem,hU,hpe,hpk,p2,p3,p4,p5,p6,p7,p8,p9]
     exact ⟨by rw [chg1_eq]; simp only [hU,hpe,hpk,Bool.and_false,Bool.false_and,Bool.and_true,Bool.true_and,Bool.not_true,Bool.not_false],n0⟩
    | true =>
     cases hbe:bx.isEmpty with
     | false =>
      simp -dsimp [go_sem,hU,hpe,hpk,hbe,p2,p3,p4,p5,p6,p7,p8,p9]
      exact ⟨by rw [chg1_eq]; simp only [hU,hpe,hpk,hbe,Bool.and_false,Bool.false_and,Bool.and_true,Bool.true_and,Bool.not_true,Bool.not_false],n0⟩
     | true =>
      cases hte:to.isEmpty with
      | false =>
       simp -dsimp [go_sem,hU,hpe,hpk,hbe,hte,p2,p3,p4,p5,p6,p7,p8,p9]
       exact ⟨by rw [chg1_eq]; simp only [hU,hpe,hpk,hbe,hte,Bool.and_false,Bool.false_and,Bool.and_true,Bool.true_and,Bool.not_true,Bool.not_false],n0⟩
      | true =>
       simp -dsimp [go_sem,hpe,hpk,hbe,hte,p2,p3,p4,p5,p6,p7,p8,p9]
       refine call (ruids14_spec ul A ca _ hr hl) ?_
       rintro v w4 ⟨rfl,k4⟩
       have hx4:=hx.nw k4
       have n4:=n0.nw k4
       have q5:=hx4.cell 5
       have q6:=hx4.cell 6
       have q7:=hx4.cell 7
       have q8:=hx4.cell 8
       have q9:=hx4.cell 9
       cases hul:uidsOk ul with
       | false =>
        simp -dsimp [go_sem,hU,hpe,hpk,hbe,hte,hul,q5,q6,q7,q8,q9]
        exact ⟨by rw [chg1_eq]; simp only [hU,hpe,hpk,hbe,hte,hul,Bool.and_false,Bool.false_and,Bool.and_true,Bool.true_and,Bool.not_true,Bool.not_false],n4⟩
       | true =>
        cases hue:decide (0 < ul.length) with
        | true =>
         simp -dsimp [go_sem,hU,hpe,hpk,hbe,hte,hul,hue,q5,q6,q7,q8,q9]
         exact ⟨by rw [chg1_eq]; simp only [hU,hpe,hpk,hbe,hte,hul,hue,Bool.and_false,Bool.false_and,Bool.and_true,Bool.true_and,Bool.not_true,Bool.not_false],n4⟩
        | false =>
         simp -dsimp [go_sem,hpe,hpk,hbe,hte,hul,hue,q5,q6,q7,q8,q9]
         refine call (rin14_spec m 0 2 _) ?_
         rintro v w5 ⟨rfl,rfl⟩
         cases hm:okF m 0 2 with
         | false =>
          simp -dsimp [go_sem,hU,hpe,hpk,hbe,hte,hul,hue,hm,q5,q6,q7,q8,q9]
          exact ⟨by rw [chg1_eq]; simp only [hU,hpe,hpk,hbe,hte,hul,hue,hm,Bool.and_false,Bool.false_and,Bool.and_true,Bool.true_and,Bool.not_true,Bool.not_false],n4⟩
         | true =>
          simp -dsimp [go_sem,hpe,hpk,hbe,hte,hul,hue,hm,q5,q6,q7,q8,q9]
          refine call (rin14_spec f 0 31 _) ?_
          rintro v w5 ⟨rfl,rfl⟩
          cases hf:okF f 0 31 with
          | false =>
           simp -dsimp [go_sem,hU,hpe,hpk,hbe,hte,hul,hue,hm,hf,q5,q6,q7,q8,q9]
           exact ⟨by rw [chg1_eq]; simp only [hU,hpe,hpk,hbe,hte,hul,hue,hm,hf,Bool.and_false,Bool.false_and,Bool.and_true,Bool.true_and,Bool.not_true,Bool.not_false],n4⟩
          | true =>
           simp -dsimp [go_sem,hpe,hpk,hbe,hte,hul,hue,hm,hf,q5,q6,q7,q8,q9]
           refine call (rin14_spec d 0 1073741824 _) ?_
           rintro v w5 ⟨rfl,rfl⟩
           cases hd:okF d 0 1073741824 with
           | false =>
            simp -dsimp [go_sem,hU,hpe,hpk,hbe,hte,hul,hue,hm,hf,hd,q5,q6,q7,q8,q9]
            exact ⟨by rw [chg1_eq]; simp only [hU,hpe,hpk,hbe,hte,hul,hue,hm,hf,hd,Bool.and_false,Bool.false_and,Bool.and_true,Bool.true_and,Bool.not_true,Bool.not_false],n4⟩
           | true =>
            cases hbd:decide ((1200:Int) < (bd.length:Int)) with
            | true =>
             simp -dsimp [go_sem,hU,hpe,hpk,hbe,hte,hul,hue,hm,hf,hd,hbd,q5,q6,q7,q8,q9]
             exact ⟨by rw [chg1_eq]; simp only [hU,hpe,hpk,hbe,hte,hul,hue,hm,hf,hd,hbd,Bool.and_false,Bool.false_and,Bool.and_true,Bool.true_and,Bool.not_true,Bool.not_false],n4⟩
            | false =>
             cases hm0:(m == 0) with
             | false =>
              simp -dsimp [go_sem,hU,hpe,hpk,hbe,hte,hul,hue,hm,hf,hd,hbd,hm0,q5,q6,q7,q8,q9]
              exact ⟨by rw [chg1_eq]; simp only [hU,hpe,hpk,hbe,hte,hul,hue,hm,hf,hd,hbd,hm0,Bool.and_false,Bool.false_and,Bool.and_true,Bool.true_and,Bool.not_true,Bool.not_false],n4⟩
             | true =>
              cases hf0:(f == 0) with
              | false =>
               simp -dsimp [go_sem,hU,hpe,hpk,hbe,hte,hul,hue,hm,hf,hd,hbd,hm0,hf0,q5,q6,q7,q8,q9]
               exact ⟨by rw [chg1_eq]; simp only [hU,hpe,hpk,hbe,hte,hul,hue,hm,hf,hd,hbd,hm0,hf0,Bool.and_false,Bool.false_and,Bool.and_true,Bool.true_and,Bool.not_true,Bool.not_false],n4⟩
              | true =>
               cases hd0:(d == 0) with
               | false =>
                simp -dsimp [go_sem,hU,hpe,hpk,hbe,hte,hul,hue,hm,hf,hd,hbd,hm0,hf0,hd0,q5,q6,q7,q8,q9]
                exact ⟨by rw [chg1_eq]; simp only [hU,hpe,hpk,hbe,hte,hul,hue,hm,hf,hd,hbd,hm0,hf0,hd0,Bool.and_false,Bool.false_and,Bool.and_true,Bool.true_and,Bool.not_true,Bool.not_false],n4⟩
               | true =>
                simp -dsimp [go_sem,hpe,hpk,hbe,hte,hul,hue,hm,hf,hd,hbd,hm0,hf0,hd0,q5,q6,q7,q8,q9]
                exact ⟨by rw [chg1_eq]; simp only [hU,hpe,hpk,hbe,hte,hul,hue,hm,hf,hd,hbd,hm0,hf0,hd0,Bool.and_false,Bool.false_and,Bool.and_true,Bool.true_and,Bool.not_true,Bool.not_false],n4⟩
  ·skip
   cases hpe:ps.isEmpty with
   | false =>
    simp -dsimp [go_sem,hU,hpe,p2,p3,p4,p5,p6,p7,p8,p9]
    exact ⟨by rw [chg2_eq]; simp only [hU,hpe,Bool.and_false,Bool.false_and,Bool.and_true,Bool.true_and,Bool.not_true,Bool.not_false],n0⟩
   | true =>
    cases hbe:bx.isEmpty with
    | true =>
     simp -dsimp [go_sem,hU,hpe,hbe,p2,p3,p4,p5,p6,p7,p8,p9]
     exact ⟨by rw [chg2_eq]; simp only [hU,hpe,hbe,Bool.and_false,Bool.false_and,Bool.and_true,Bool.true_and,Bool.not_true,Bool.not_false],n0⟩
    | false =>
     simp -dsimp [go_sem,hpe,hbe,p2,p3,p4,p5,p6,p7,p8,p9]
     refine call (rname_spec ⟨bx.toArray⟩ _ (by simp [ByteArray.size]; omega)) ?_
     rintro v w2 ⟨rfl,rfl⟩
     rw [show nameOk ⟨bx.toArray⟩ = nmOk bx from rfl]
     cases hbk:nmOk bx with
     | false =>
      simp -dsimp [go_sem,hU,hpe,hbe,hbk,p2,p3,p4,p5,p6,p7,p8,p9]
      exact ⟨by rw [chg2_eq]; simp only [hU,hpe,hbe,hbk,Bool.and_false,Bool.false_and,Bool.and_true,Bool.true_and,Bool.not_true,Bool.not_false],n0⟩
     | true =>
      cases hte:to.isEmpty with
      | false =>
       simp -dsimp [go_sem,hU,hpe,hbe,hbk,hte,p2,p3,p4,p5,p6,p7,p8,p9]
       exact ⟨by rw [chg2_eq]; simp only [hU,hpe,hbe,hbk,hte,Bool.and_false,Bool.false_and,Bool.and_true,Bool.true_and,Bool.not_true,Bool.not_false],n0⟩
      | true =>
       simp -dsimp [go_sem,hpe,hbe,hbk,hte,p2,p3,p4,p5,p6,p7,p8,p9]
       refine call (ruids14_spec ul A ca _ hr hl) ?_
       rintro v w4 ⟨rfl,k4⟩
       have hx4:=hx.nw k4
       have n4:=n0.nw k4
       have q5:=hx4.cell 5
       have q6:=hx4.cell 6
       have q7:=hx4.cell 7
       have q8:=hx4.cell 8
       have q9:=hx4.cell 9
       cases hul:uidsOk ul with
       | false =>
        simp -dsimp [go_sem,hU,hpe,hbe,hbk,hte,hul,q5,q6,q7,q8,q9]
        exact ⟨by rw [chg2_eq]; simp only [hU,hpe,hbe,hbk,hte,hul,Bool.and_false,Bool.false_and,Bool.and_true,Bool.true_and,Bool.not_true,Bool.not_false],n4⟩
       | true =>
        cases hue:decide (0 < ul.length) with
        | true =>
         simp -dsimp [go_sem,hU,hpe,hbe,hbk,hte,hul,hue,q5,q6,q7,q8,q9]
         exact ⟨by rw [chg2_eq]; simp only [hU,hpe,hbe,hbk,hte,hul,hue,Bool.and_false,Bool.false_and,Bool.and_true,Bool.true_and,Bool.not_true,Bool.not_false],n4⟩
        | false =>
         simp -dsimp [go_sem,hpe,hbe,hbk,hte,hul,hue,q5,q6,q7,q8,q9]
         refine call (rin14_spec m 0 2 _) ?_
         rintro v w5 ⟨rfl,rfl⟩
         cases hm:okF m 0 2 with
         | false =>
          simp -dsimp [go_sem,hU,hpe,hbe,hbk,hte,hul,hue,hm,q5,q6,q7,q8,q9]
          exact ⟨by rw [chg2_eq]; simp only [hU,hpe,hbe,hbk,hte,hul,hue,hm,Bool.and_false,Bool.false_and,Bool.and_true,Bool.true_and,Bool.not_true,Bool.not_false],n4⟩
         | true =>
          simp -dsimp [go_sem,hpe,hbe,hbk,hte,hul,hue,hm,q5,q6,q7,q8,q9]
          refine call (rin14_spec f 0 31 _) ?_
          rintro v w5 ⟨rfl,rfl⟩
          cases hf:okF f 0 31 with
          | false =>
           simp -dsimp [go_sem,hU,hpe,hbe,hbk,hte,hul,hue,hm,hf,q5,q6,q7,q8,q9]
           exact ⟨by rw [chg2_eq]; simp only [hU,hpe,hbe,hbk,hte,hul,hue,hm,hf,Bool.and_false,Bool.false_and,Bool.and_true,Bool.true_and,Bool.not_true,Bool.not_false],n4⟩
          | true =>
           simp -dsimp [go_sem,hpe,hbe,hbk,hte,hul,hue,hm,hf,q5,q6,q7,q8,q9]
           refine call (rin14_spec d 0 1073741824 _) ?_
           rintro v w5 ⟨rfl,rfl⟩
           cases hd:okF d 0 1073741824 with
           | false =>
            simp -dsimp [go_sem,hU,hpe,hbe,hbk,hte,hul,hue,hm,hf,hd,q5,q6,q7,q8,q9]
            exact ⟨by rw [chg2_eq]; simp only [hU,hpe,hbe,hbk,hte,hul,hue,hm,hf,hd,Bool.and_false,Bool.false_and,Bool.and_true,Bool.true_and,Bool.not_true,Bool.not_false],n4⟩
           | true =>
            cases hbd:decide ((1200:Int) < (bd.length:Int)) with
            | true =>
             simp -dsimp [go_sem,hU,hpe,hbe,hbk,hte,hul,hue,hm,hf,hd,hbd,q5,q6,q7,q8,q9]
             exact ⟨by rw [chg2_eq]; simp only [hU,hpe,hbe,hbk,hte,hul,hue,hm,hf,hd,hbd,Bool.and_false,Bool.false_and,Bool.and_true,Bool.true_and,Bool.not_true,Bool.not_false],n4⟩
            | false =>
             cases hm0:(m == 0) with
             | false =>
              simp -dsimp [go_sem,hU,hpe,hbe,hbk,hte,hul,hue,hm,hf,hd,hbd,hm0,q5,q6,q7,q8,q9]
              exact ⟨by rw [chg2_eq]; simp only [hU,hpe,hbe,hbk,hte,hul,hue,hm,hf,hd,hbd,hm0,Bool.and_false,Bool.false_and,Bool.and_true,Bool.true_and,Bool.not_true,Bool.not_false],n4⟩
             | true =>
              cases hf0:(f == 0) with
              | false =>
               simp -dsimp [go_sem,hU,hpe,hbe,hbk,hte,hul,hue,hm,hf,hd,hbd,hm0,hf0,q5,q6,q7,q8,q9]
               exact ⟨by rw [chg2_eq]; simp only [hU,hpe,hbe,hbk,hte,hul,hue,hm,hf,hd,hbd,hm0,hf0,Bool.and_false,Bool.false_and,Bool.and_true,Bool.true_and,Bool.not_true,Bool.not_false],n4⟩
              | true =>
               cases hd0:(d == 0) with
               | false =>
                simp -dsimp [go_sem,hU,hpe,hbe,hbk,hte,hul,hue,hm,hf,hd,hbd,hm0,hf0,hd0,q5,q6,q7,q8,q9]
                exact ⟨by rw [chg2_eq]; simp only [hU,hpe,hbe,hbk,hte,hul,hue,hm,hf,hd,hbd,hm0,hf0,hd0,Bool.and_false,Bool.false_and,Bool.and_true,Bool.true_and,Bool.not_true,Bool.not_false],n4⟩
               | true =>
                simp -dsimp [go_sem,hpe,hbe,hbk,hte,hul,hue,hm,hf,hd,hbd,hm0,hf0,hd0,q5,q6,q7,q8,q9]
                exact ⟨by rw [chg2_eq]; simp only [hU,hpe,hbe,hbk,hte,hul,hue,hm,hf,hd,hbd,hm0,hf0,hd0,Bool.and_false,Bool.false_and,Bool.and_true,Bool.true_and,Bool.not_true,Bool.not_false],n4⟩
  ·skip
   cases hpe:ps.isEmpty with
   | false =>
    simp -dsimp [go_sem,hU,hpe,p2,p3,p4,p5,p6,p7,p8,p9]
    exact ⟨by rw [chg3_eq]; simp only [hU,hpe,Bool.and_false,Bool.false_and,Bool.and_true,Bool.true_and,Bool.not_true,Bool.not_false],n0⟩
   | true =>
    cases hbe:bx.isEmpty with
    | true =>
     simp -dsimp [go_sem,hU,hpe,hbe,p2,p3,p4,p5,p6,p7,p8,p9]
     exact ⟨by rw [chg3_eq]; simp only [hU,hpe,hbe,Bool.and_false,Bool.false_and,Bool.and_true,Bool.true_and,Bool.not_true,Bool.not_false],n0⟩
    | false =>
     simp -dsimp [go_sem,hpe,hbe,p2,p3,p4,p5,p6,p7,p8,p9]
     refine call (rname_spec ⟨bx.toArray⟩ _ (by simp [ByteArray.size]; omega)) ?_
     rintro v w2 ⟨rfl,rfl⟩
     rw [show nameOk ⟨bx.toArray⟩ = nmOk bx from rfl]
     cases hbk:nmOk bx with
     | false =>
      simp -dsimp [go_sem,hU,hpe,hbe,hbk,p2,p3,p4,p5,p6,p7,p8,p9]
      exact ⟨by rw [chg3_eq]; simp only [hU,hpe,hbe,hbk,Bool.and_false,Bool.false_and,Bool.and_true,Bool.true_and,Bool.not_true,Bool.not_false],n0⟩
     | true =>
      cases hte:to.isEmpty with
      | false =>
       simp -dsimp [go_sem,hU,hpe,hbe,hbk,hte,p2,p3,p4,p5,p6,p7,p8,p9]
       exact ⟨by rw [chg3_eq]; simp only [hU,hpe,hbe,hbk,hte,Bool.and_false,Bool.false_and,Bool.and_true,Bool.true_and,Bool.not_true,Bool.not_false],n0⟩
      | true =>
       simp -dsimp [go_sem,hpe,hbe,hbk,hte,p2,p3,p4,p5,p6,p7,p8,p9]
       refine call (ruids14_spec ul A ca _ hr hl) ?_
       rintro v w4 ⟨rfl,k4⟩
       have hx4:=hx.nw k4
       have n4:=n0.nw k4
       have q5:=hx4.cell 5
       have q6:=hx4.cell 6
       have q7:=hx4.cell 7
       have q8:=hx4.cell 8
       have q9:=hx4.cell 9
       cases hul:uidsOk ul with
       | false =>
        simp -dsimp [go_sem,hU,hpe,hbe,hbk,hte,hul,q5,q6,q7,q8,q9]
        exact ⟨by rw [chg3_eq]; simp only [hU,hpe,hbe,hbk,hte,hul,Bool.and_false,Bool.false_and,Bool.and_true,Bool.true_and,Bool.not_true,Bool.not_false],n4⟩
       | true =>
        cases hue:decide (0 < ul.length) with
        | true =>
         simp -dsimp [go_sem,hU,hpe,hbe,hbk,hte,hul,hue,q5,q6,q7,q8,q9]
         exact ⟨by rw [chg3_eq]; simp only [hU,hpe,hbe,hbk,hte,hul,hue,Bool.and_false,Bool.false_and,Bool.and_true,Bool.true_and,Bool.not_true,Bool.not_false],n4⟩
        | false =>
         simp -dsimp [go_sem,hpe,hbe,hbk,hte,hul,hue,q5,q6,q7,q8,q9]
         refine call (rin14_spec m 0 2 _) ?_
         rintro v w5 ⟨rfl,rfl⟩
         cases hm:okF m 0 2 with
         | false =>
          simp -dsimp [go_sem,hU,hpe,hbe,hbk,hte,hul,hue,hm,q5,q6,q7,q8,q9]
          exact ⟨by rw [chg3_eq]; simp only [hU,hpe,hbe,hbk,hte,hul,hue,hm,Bool.and_false,Bool.false_and,Bool.and_true,Bool.true_and,Bool.not_true,Bool.not_false],n4⟩
         | true =>
          simp -dsimp [go_sem,hpe,hbe,hbk,hte,hul,hue,hm,q5,q6,q7,q8,q9]
          refine call (rin14_spec f 0 31 _) ?_
          rintro v w5 ⟨rfl,rfl⟩
          cases hf:okF f 0 31 with
          | false =>
           simp -dsimp [go_sem,hU,hpe,hbe,hbk,hte,hul,hue,hm,hf,q5,q6,q7,q8,q9]
           exact ⟨by rw [chg3_eq]; simp only [hU,hpe,hbe,hbk,hte,hul,hue,hm,hf,Bool.and_false,Bool.false_and,Bool.and_true,Bool.true_and,Bool.not_true,Bool.not_false],n4⟩
          | true =>
           simp -dsimp [go_sem,hpe,hbe,hbk,hte,hul,hue,hm,hf,q5,q6,q7,q8,q9]
           refine call (rin14_spec d 0 1073741824 _) ?_
           rintro v w5 ⟨rfl,rfl⟩
           cases hd:okF d 0 1073741824 with
           | false =>
            simp -dsimp [go_sem,hU,hpe,hbe,hbk,hte,hul,hue,hm,hf,hd,q5,q6,q7,q8,q9]
            exact ⟨by rw [chg3_eq]; simp only [hU,hpe,hbe,hbk,hte,hul,hue,hm,hf,hd,Bool.and_false,Bool.false_and,Bool.and_true,Bool.true_and,Bool.not_true,Bool.not_false],n4⟩
           | true =>
            cases hbd:decide ((1200:Int) < (bd.length:Int)) with
            | true =>
             simp -dsimp [go_sem,hU,hpe,hbe,hbk,hte,hul,hue,hm,hf,hd,hbd,q5,q6,q7,q8,q9]
             exact ⟨by rw [chg3_eq]; simp only [hU,hpe,hbe,hbk,hte,hul,hue,hm,hf,hd,hbd,Bool.and_false,Bool.false_and,Bool.and_true,Bool.true_and,Bool.not_true,Bool.not_false],n4⟩
            | false =>
             cases hm0:(m == 0) with
             | false =>
              simp -dsimp [go_sem,hU,hpe,hbe,hbk,hte,hul,hue,hm,hf,hd,hbd,hm0,q5,q6,q7,q8,q9]
              exact ⟨by rw [chg3_eq]; simp only [hU,hpe,hbe,hbk,hte,hul,hue,hm,hf,hd,hbd,hm0,Bool.and_false,Bool.false_and,Bool.and_true,Bool.true_and,Bool.not_true,Bool.not_false],n4⟩
             | true =>
              cases hf0:(f == 0) with
              | false =>
               simp -dsimp [go_sem,hU,hpe,hbe,hbk,hte,hul,hue,hm,hf,hd,hbd,hm0,hf0,q5,q6,q7,q8,q9]
               exact ⟨by rw [chg3_eq]; simp only [hU,hpe,hbe,hbk,hte,hul,hue,hm,hf,hd,hbd,hm0,hf0,Bool.and_false,Bool.false_and,Bool.and_true,Bool.true_and,Bool.not_true,Bool.not_false],n4⟩
              | true =>
               cases hd0:(d == 0) with
               | false =>
                simp -dsimp [go_sem,hU,hpe,hbe,hbk,hte,hul,hue,hm,hf,hd,hbd,hm0,hf0,hd0,q5,q6,q7,q8,q9]
                exact ⟨by rw [chg3_eq]; simp only [hU,hpe,hbe,hbk,hte,hul,hue,hm,hf,hd,hbd,hm0,hf0,hd0,Bool.and_false,Bool.false_and,Bool.and_true,Bool.true_and,Bool.not_true,Bool.not_false],n4⟩
               | true =>
                simp -dsimp [go_sem,hpe,hbe,hbk,hte,hul,hue,hm,hf,hd,hbd,hm0,hf0,hd0,q5,q6,q7,q8,q9]
                exact ⟨by rw [chg3_eq]; simp only [hU,hpe,hbe,hbk,hte,hul,hue,hm,hf,hd,hbd,hm0,hf0,hd0,Bool.and_false,Bool.false_and,Bool.and_true,Bool.true_and,Bool.not_true,Bool.not_false],n4⟩
  ·skip
   cases hpe:ps.isEmpty with
   | false =>
    simp -dsimp [go_sem,hU,hpe,p2,p3,p4,p5,p6,p7,p8,p9]
    exact ⟨by rw [chg4_eq]; simp only [hU,hpe,Bool.and_false,Bool.false_and,Bool.and_true,Bool.true_and,Bool.not_true,Bool.not_false],n0⟩
   | true =>
    cases hbe:bx.isEmpty with
    | true =>
     simp -dsimp [go_sem,hU,hpe,hbe,p2,p3,p4,p5,p6,p7,p8,p9]
     exact ⟨by rw [chg4_eq]; simp only [hU,hpe,hbe,Bool.and_false,Bool.false_and,Bool.and_true,Bool.true_and,Bool.not_true,Bool.not_false],n0⟩
    | false =>
     simp -dsimp [go_sem,hpe,hbe,p2,p3,p4,p5,p6,p7,p8,p9]
     refine call (rname_spec ⟨bx.toArray⟩ _ (by simp [ByteArray.size]; omega)) ?_
     rintro v w2 ⟨rfl,rfl⟩
     rw [show nameOk ⟨bx.toArray⟩ = nmOk bx from rfl]
     cases hbk:nmOk bx with
     | false =>
      simp -dsimp [go_sem,hU,hpe,hbe,hbk,p2,p3,p4,p5,p6,p7,p8,p9]
      exact ⟨by rw [chg4_eq]; simp only [hU,hpe,hbe,hbk,Bool.and_false,Bool.false_and,Bool.and_true,Bool.true_and,Bool.not_true,Bool.not_false],n0⟩
     | true =>
      simp -dsimp [go_sem,hpe,hbe,hbk,p2,p3,p4,p5,p6,p7,p8,p9]
      refine call (rname_spec ⟨to.toArray⟩ _ (by simp [ByteArray.size]; omega)) ?_
      rintro v w3 ⟨rfl,rfl⟩
      rw [show nameOk ⟨to.toArray⟩ = nmOk to from rfl]
      cases htk:nmOk to with
      | false =>
       simp -dsimp [go_sem,hU,hpe,hbe,hbk,htk,p2,p3,p4,p5,p6,p7,p8,p9]
       exact ⟨by rw [chg4_eq]; simp only [hU,hpe,hbe,hbk,htk,Bool.and_false,Bool.false_and,Bool.and_true,Bool.true_and,Bool.not_true,Bool.not_false],n0⟩
      | true =>
       simp -dsimp [go_sem,hpe,hbe,hbk,htk,p2,p3,p4,p5,p6,p7,p8,p9]
       refine call (ruids14_spec ul A ca _ hr hl) ?_
       rintro v w4 ⟨rfl,k4⟩
       have hx4:=hx.nw k4
       have n4:=n0.nw k4
       have q5:=hx4.cell 5
       have q6:=hx4.cell 6
       have q7:=hx4.cell 7
       have q8:=hx4.cell 8
       have q9:=hx4.cell 9
       cases hul:uidsOk ul with
       | false =>
        simp -dsimp [go_sem,hU,hpe,hbe,hbk,htk,hul,q5,q6,q7,q8,q9]
        exact ⟨by rw [chg4_eq]; simp only [hU,hpe,hbe,hbk,htk,hul,Bool.and_false,Bool.false_and,Bool.and_true,Bool.true_and,Bool.not_true,Bool.not_false],n4⟩
       | true =>
        cases hue:decide (0 < ul.length) with
        | true =>
         simp -dsimp [go_sem,hU,hpe,hbe,hbk,htk,hul,hue,q5,q6,q7,q8,q9]
         exact ⟨by rw [chg4_eq]; simp only [hU,hpe,hbe,hbk,htk,hul,hue,Bool.and_false,Bool.false_and,Bool.and_true,Bool.true_and,Bool.not_true,Bool.not_false],n4⟩
        | false =>
         simp -dsimp [go_sem,hpe,hbe,hbk,htk,hul,hue,q5,q6,q7,q8,q9]
         refine call (rin14_spec m 0 2 _) ?_
         rintro v w5 ⟨rfl,rfl⟩
         cases hm:okF m 0 2 with
         | false =>
          simp -dsimp [go_sem,hU,hpe,hbe,hbk,htk,hul,hue,hm,q5,q6,q7,q8,q9]
          exact ⟨by rw [chg4_eq]; simp only [hU,hpe,hbe,hbk,htk,hul,hue,hm,Bool.and_false,Bool.false_and,Bool.and_true,Bool.true_and,Bool.not_true,Bool.not_false],n4⟩
         | true =>
          simp -dsimp [go_sem,hpe,hbe,hbk,htk,hul,hue,hm,q5,q6,q7,q8,q9]
          refine call (rin14_spec f 0 31 _) ?_
          rintro v w5 ⟨rfl,rfl⟩
          cases hf:okF f 0 31 with
          | false =>
           simp -dsimp [go_sem,hU,hpe,hbe,hbk,htk,hul,hue,hm,hf,q5,q6,q7,q8,q9]
           exact ⟨by rw [chg4_eq]; simp only [hU,hpe,hbe,hbk,htk,hul,hue,hm,hf,Bool.and_false,Bool.false_and,Bool.and_true,Bool.true_and,Bool.not_true,Bool.not_false],n4⟩
          | true =>
           simp -dsimp [go_sem,hpe,hbe,hbk,htk,hul,hue,hm,hf,q5,q6,q7,q8,q9]
           refine call (rin14_spec d 0 1073741824 _) ?_
           rintro v w5 ⟨rfl,rfl⟩
           cases hd:okF d 0 1073741824 with
           | false =>
            simp -dsimp [go_sem,hU,hpe,hbe,hbk,htk,hul,hue,hm,hf,hd,q5,q6,q7,q8,q9]
            exact ⟨by rw [chg4_eq]; simp only [hU,hpe,hbe,hbk,htk,hul,hue,hm,hf,hd,Bool.and_false,Bool.false_and,Bool.and_true,Bool.true_and,Bool.not_true,Bool.not_false],n4⟩
           | true =>
            cases hbd:decide ((1200:Int) < (bd.length:Int)) with
            | true =>
             simp -dsimp [go_sem,hU,hpe,hbe,hbk,htk,hul,hue,hm,hf,hd,hbd,q5,q6,q7,q8,q9]
             exact ⟨by rw [chg4_eq]; simp only [hU,hpe,hbe,hbk,htk,hul,hue,hm,hf,hd,hbd,Bool.and_false,Bool.false_and,Bool.and_true,Bool.true_and,Bool.not_true,Bool.not_false],n4⟩
            | false =>
             cases hm0:(m == 0) with
             | false =>
              simp -dsimp [go_sem,hU,hpe,hbe,hbk,htk,hul,hue,hm,hf,hd,hbd,hm0,q5,q6,q7,q8,q9]
              exact ⟨by rw [chg4_eq]; simp only [hU,hpe,hbe,hbk,htk,hul,hue,hm,hf,hd,hbd,hm0,Bool.and_false,Bool.false_and,Bool.and_true,Bool.true_and,Bool.not_true,Bool.not_false],n4⟩
             | true =>
              cases hf0:(f == 0) with
              | false =>
               simp -dsimp [go_sem,hU,hpe,hbe,hbk,htk,hul,hue,hm,hf,hd,hbd,hm0,hf0,q5,q6,q7,q8,q9]
               exact ⟨by rw [chg4_eq]; simp only [hU,hpe,hbe,hbk,htk,hul,hue,hm,hf,hd,hbd,hm0,hf0,Bool.and_false,Bool.false_and,Bool.and_true,Bool.true_and,Bool.not_true,Bool.not_false],n4⟩
              | true =>
               cases hd0:(d == 0) with
               | false =>
                simp -dsimp [go_sem,hU,hpe,hbe,hbk,htk,hul,hue,hm,hf,hd,hbd,hm0,hf0,hd0,q5,q6,q7,q8,q9]
                exact ⟨by rw [chg4_eq]; simp only [hU,hpe,hbe,hbk,htk,hul,hue,hm,hf,hd,hbd,hm0,hf0,hd0,Bool.and_false,Bool.false_and,Bool.and_true,Bool.true_and,Bool.not_true,Bool.not_false],n4⟩
               | true =>
                simp -dsimp [go_sem,hpe,hbe,hbk,htk,hul,hue,hm,hf,hd,hbd,hm0,hf0,hd0,q5,q6,q7,q8,q9]
                exact ⟨by rw [chg4_eq]; simp only [hU,hpe,hbe,hbk,htk,hul,hue,hm,hf,hd,hbd,hm0,hf0,hd0,Bool.and_false,Bool.false_and,Bool.and_true,Bool.true_and,Bool.not_true,Bool.not_false],n4⟩
  ·skip
   cases hpe:ps.isEmpty with
   | false =>
    simp -dsimp [go_sem,hU,hpe,p2,p3,p4,p5,p6,p7,p8,p9]
    exact ⟨by rw [chg5_eq]; simp only [hU,hpe,Bool.and_false,Bool.false_and,Bool.and_true,Bool.true_and,Bool.not_true,Bool.not_false],n0⟩
   | true =>
    cases hbe:bx.isEmpty with
    | true =>
     simp -dsimp [go_sem,hU,hpe,hbe,p2,p3,p4,p5,p6,p7,p8,p9]
     exact ⟨by rw [chg5_eq]; simp only [hU,hpe,hbe,Bool.and_false,Bool.false_and,Bool.and_true,Bool.true_and,Bool.not_true,Bool.not_false],n0⟩
    | false =>
     simp -dsimp [go_sem,hpe,hbe,p2,p3,p4,p5,p6,p7,p8,p9]
     refine call (rname_spec ⟨bx.toArray⟩ _ (by simp [ByteArray.size]; omega)) ?_
     rintro v w2 ⟨rfl,rfl⟩
     rw [show nameOk ⟨bx.toArray⟩ = nmOk bx from rfl]
     cases hbk:nmOk bx with
     | false =>
      simp -dsimp [go_sem,hU,hpe,hbe,hbk,p2,p3,p4,p5,p6,p7,p8,p9]
      exact ⟨by rw [chg5_eq]; simp only [hU,hpe,hbe,hbk,Bool.and_false,Bool.false_and,Bool.and_true,Bool.true_and,Bool.not_true,Bool.not_false],n0⟩
     | true =>
      cases hte:to.isEmpty with
      | false =>
       simp -dsimp [go_sem,hU,hpe,hbe,hbk,hte,p2,p3,p4,p5,p6,p7,p8,p9]
       exact ⟨by rw [chg5_eq]; simp only [hU,hpe,hbe,hbk,hte,Bool.and_false,Bool.false_and,Bool.and_true,Bool.true_and,Bool.not_true,Bool.not_false],n0⟩
      | true =>
       simp -dsimp [go_sem,hpe,hbe,hbk,hte,p2,p3,p4,p5,p6,p7,p8,p9]
       refine call (ruids14_spec ul A ca _ hr hl) ?_
       rintro v w4 ⟨rfl,k4⟩
       have hx4:=hx.nw k4
       have n4:=n0.nw k4
       have q5:=hx4.cell 5
       have q6:=hx4.cell 6
       have q7:=hx4.cell 7
       have q8:=hx4.cell 8
       have q9:=hx4.cell 9
       cases hul:uidsOk ul with
       | false =>
        simp -dsimp [go_sem,hU,hpe,hbe,hbk,hte,hul,q5,q6,q7,q8,q9]
        exact ⟨by rw [chg5_eq]; simp only [hU,hpe,hbe,hbk,hte,hul,Bool.and_false,Bool.false_and,Bool.and_true,Bool.true_and,Bool.not_true,Bool.not_false],n4⟩
       | true =>
        cases hue:decide (0 < ul.length) with
        | true =>
         simp -dsimp [go_sem,hU,hpe,hbe,hbk,hte,hul,hue,q5,q6,q7,q8,q9]
         exact ⟨by rw [chg5_eq]; simp only [hU,hpe,hbe,hbk,hte,hul,hue,Bool.and_false,Bool.false_and,Bool.and_true,Bool.true_and,Bool.not_true,Bool.not_false],n4⟩
        | false =>
         simp -dsimp [go_sem,hpe,hbe,hbk,hte,hul,hue,q5,q6,q7,q8,q9]
         refine call (rin14_spec m 0 2 _) ?_
         rintro v w5 ⟨rfl,rfl⟩
         cases hm:okF m 0 2 with
         | false =>
          simp -dsimp [go_sem,hU,hpe,hbe,hbk,hte,hul,hue,hm,q5,q6,q7,q8,q9]
          exact ⟨by rw [chg5_eq]; simp only [hU,hpe,hbe,hbk,hte,hul,hue,hm,Bool.and_false,Bool.false_and,Bool.and_true,Bool.true_and,Bool.not_true,Bool.not_false],n4⟩
         | true =>
          simp -dsimp [go_sem,hpe,hbe,hbk,hte,hul,hue,hm,q5,q6,q7,q8,q9]
          refine call (rin14_spec f 0 31 _) ?_
          rintro v w5 ⟨rfl,rfl⟩
          cases hf:okF f 0 31 with
          | false =>
           simp -dsimp [go_sem,hU,hpe,hbe,hbk,hte,hul,hue,hm,hf,q5,q6,q7,q8,q9]
           exact ⟨by rw [chg5_eq]; simp only [hU,hpe,hbe,hbk,hte,hul,hue,hm,hf,Bool.and_false,Bool.false_and,Bool.and_true,Bool.true_and,Bool.not_true,Bool.not_false],n4⟩
          | true =>
           simp -dsimp [go_sem,hpe,hbe,hbk,hte,hul,hue,hm,hf,q5,q6,q7,q8,q9]
           refine call (rin14_spec d 0 1073741824 _) ?_
           rintro v w5 ⟨rfl,rfl⟩
           cases hd:okF d 0 1073741824 with
           | false =>
            simp -dsimp [go_sem,hU,hpe,hbe,hbk,hte,hul,hue,hm,hf,hd,q5,q6,q7,q8,q9]
            exact ⟨by rw [chg5_eq]; simp only [hU,hpe,hbe,hbk,hte,hul,hue,hm,hf,hd,Bool.and_false,Bool.false_and,Bool.and_true,Bool.true_and,Bool.not_true,Bool.not_false],n4⟩
           | true =>
            cases hbd:decide ((1200:Int) < (bd.length:Int)) with
            | true =>
             simp -dsimp [go_sem,hU,hpe,hbe,hbk,hte,hul,hue,hm,hf,hd,hbd,q5,q6,q7,q8,q9]
             exact ⟨by rw [chg5_eq]; simp only [hU,hpe,hbe,hbk,hte,hul,hue,hm,hf,hd,hbd,Bool.and_false,Bool.false_and,Bool.and_true,Bool.true_and,Bool.not_true,Bool.not_false],n4⟩
            | false =>
             cases hm0:(m == 0) with
             | false =>
              simp -dsimp [go_sem,hU,hpe,hbe,hbk,hte,hul,hue,hm,hf,hd,hbd,hm0,q5,q6,q7,q8,q9]
              exact ⟨by rw [chg5_eq]; simp only [hU,hpe,hbe,hbk,hte,hul,hue,hm,hf,hd,hbd,hm0,Bool.and_false,Bool.false_and,Bool.and_true,Bool.true_and,Bool.not_true,Bool.not_false],n4⟩
             | true =>
              simp -dsimp [go_sem,hpe,hbe,hbk,hte,hul,hue,hm,hf,hd,hbd,hm0,q5,q6,q7,q8,q9]
              exact ⟨by rw [chg5_eq]; simp only [hU,hpe,hbe,hbk,hte,hul,hue,hm,hf,hd,hbd,hm0,Bool.and_false,Bool.false_and,Bool.and_true,Bool.true_and,Bool.not_true,Bool.not_false],n4⟩
  ·skip
   cases hpe:ps.isEmpty with
   | false =>
    simp -dsimp [go_sem,hU,hpe,p2,p3,p4,p5,p6,p7,p8,p9]
    exact ⟨by rw [chg6_eq]; simp only [hU,hpe,Bool.and_false,Bool.false_and,Bool.and_true,Bool.true_and,Bool.not_true,Bool.not_false],n0⟩
   | true =>
    cases hbe:bx.isEmpty with
    | true =>
     simp -dsimp [go_sem,hU,hpe,hbe,p2,p3,p4,p5,p6,p7,p8,p9]
     exact ⟨by rw [chg6_eq]; simp only [hU,hpe,hbe,Bool.and_false,Bool.false_and,Bool.and_true,Bool.true_and,Bool.not_true,Bool.not_false],n0⟩
    | false =>
     simp -dsimp [go_sem,hpe,hbe,p2,p3,p4,p5,p6,p7,p8,p9]
     refine call (rname_spec ⟨bx.toArray⟩ _ (by simp [ByteArray.size]; omega)) ?_
     rintro v w2 ⟨rfl,rfl⟩
     rw [show nameOk ⟨bx.toArray⟩ = nmOk bx from rfl]
     cases hbk:nmOk bx with
     | false =>
      simp -dsimp [go_sem,hU,hpe,hbe,hbk,p2,p3,p4,p5,p6,p7,p8,p9]
      exact ⟨by rw [chg6_eq]; simp only [hU,hpe,hbe,hbk,Bool.and_false,Bool.false_and,Bool.and_true,Bool.true_and,Bool.not_true,Bool.not_false],n0⟩
     | true =>
      cases hte:to.isEmpty with
      | false =>
       simp -dsimp [go_sem,hU,hpe,hbe,hbk,hte,p2,p3,p4,p5,p6,p7,p8,p9]
       exact ⟨by rw [chg6_eq]; simp only [hU,hpe,hbe,hbk,hte,Bool.and_false,Bool.false_and,Bool.and_true,Bool.true_and,Bool.not_true,Bool.not_false],n0⟩
      | true =>
       simp -dsimp [go_sem,hpe,hbe,hbk,hte,p2,p3,p4,p5,p6,p7,p8,p9]
       refine call (ruids14_spec ul A ca _ hr hl) ?_
       rintro v w4 ⟨rfl,k4⟩
       have hx4:=hx.nw k4
       have n4:=n0.nw k4
       have q5:=hx4.cell 5
       have q6:=hx4.cell 6
       have q7:=hx4.cell 7
       have q8:=hx4.cell 8
       have q9:=hx4.cell 9
       cases hul:uidsOk ul with
       | false =>
        simp -dsimp [go_sem,hU,hpe,hbe,hbk,hte,hul,q5,q6,q7,q8,q9]
        exact ⟨by rw [chg6_eq]; simp only [hU,hpe,hbe,hbk,hte,hul,Bool.and_false,Bool.false_and,Bool.and_true,Bool.true_and,Bool.not_true,Bool.not_false],n4⟩
       | true =>
        simp -dsimp [go_sem,hpe,hbe,hbk,hte,hul,q5,q6,q7,q8,q9]
        refine call (rin14_spec m 0 2 _) ?_
        rintro v w5 ⟨rfl,rfl⟩
        cases hm:okF m 0 2 with
        | false =>
         simp -dsimp [go_sem,hU,hpe,hbe,hbk,hte,hul,hm,q5,q6,q7,q8,q9]
         exact ⟨by rw [chg6_eq]; simp only [hU,hpe,hbe,hbk,hte,hul,hm,Bool.and_false,Bool.false_and,Bool.and_true,Bool.true_and,Bool.not_true,Bool.not_false],n4⟩
        | true =>
         simp -dsimp [go_sem,hpe,hbe,hbk,hte,hul,hm,q5,q6,q7,q8,q9]
         refine call (rin14_spec f 0 31 _) ?_
         rintro v w5 ⟨rfl,rfl⟩
         cases hf:okF f 0 31 with
         | false =>
          simp -dsimp [go_sem,hU,hpe,hbe,hbk,hte,hul,hm,hf,q5,q6,q7,q8,q9]
          exact ⟨by rw [chg6_eq]; simp only [hU,hpe,hbe,hbk,hte,hul,hm,hf,Bool.and_false,Bool.false_and,Bool.and_true,Bool.true_and,Bool.not_true,Bool.not_false],n4⟩
         | true =>
          simp -dsimp [go_sem,hpe,hbe,hbk,hte,hul,hm,hf,q5,q6,q7,q8,q9]
          refine call (rin14_spec d 0 1073741824 _) ?_
          rintro v w5 ⟨rfl,rfl⟩
          cases hd:okF d 0 1073741824 with
          | false =>
           simp -dsimp [go_sem,hU,hpe,hbe,hbk,hte,hul,hm,hf,hd,q5,q6,q7,q8,q9]
           exact ⟨by rw [chg6_eq]; simp only [hU,hpe,hbe,hbk,hte,hul,hm,hf,hd,Bool.and_false,Bool.false_and,Bool.and_true,Bool.true_and,Bool.not_true,Bool.not_false],n4⟩
          | true =>
           cases hbd:decide ((1200:Int) < (bd.length:Int)) with
           | true =>
            simp -dsimp [go_sem,hU,hpe,hbe,hbk,hte,hul,hm,hf,hd,hbd,q5,q6,q7,q8,q9]
            exact ⟨by rw [chg6_eq]; simp only [hU,hpe,hbe,hbk,hte,hul,hm,hf,hd,hbd,Bool.and_false,Bool.false_and,Bool.and_true,Bool.true_and,Bool.not_true,Bool.not_false],n4⟩
           | false =>
            cases hd0:(d == 0) with
            | false =>
             simp -dsimp [go_sem,hU,hpe,hbe,hbk,hte,hul,hm,hf,hd,hbd,hd0,q5,q6,q7,q8,q9]
             exact ⟨by rw [chg6_eq]; simp only [hU,hpe,hbe,hbk,hte,hul,hm,hf,hd,hbd,hd0,Bool.and_false,Bool.false_and,Bool.and_true,Bool.true_and,Bool.not_true,Bool.not_false],n4⟩
            | true =>
             simp -dsimp [go_sem,hpe,hbe,hbk,hte,hul,hm,hf,hd,hbd,hd0,q5,q6,q7,q8,q9]
             exact ⟨by rw [chg6_eq]; simp only [hU,hpe,hbe,hbk,hte,hul,hm,hf,hd,hbd,hd0,Bool.and_false,Bool.false_and,Bool.and_true,Bool.true_and,Bool.not_true,Bool.not_false],n4⟩
  ·skip
   cases hpe:ps.isEmpty with
   | false =>
    simp -dsimp [go_sem,hU,hpe,p2,p3,p4,p5,p6,p7,p8,p9]
    exact ⟨by rw [chg7_eq]; simp only [hU,hpe,Bool.and_false,Bool.false_and,Bool.and_true,Bool.true_and,Bool.not_true,Bool.not_false],n0⟩
   | true =>
    cases hbe:bx.isEmpty with
    | true =>
     simp -dsimp [go_sem,hU,hpe,hbe,p2,p3,p4,p5,p6,p7,p8,p9]
     exact ⟨by rw [chg7_eq]; simp only [hU,hpe,hbe,Bool.and_false,Bool.false_and,Bool.and_true,Bool.true_and,Bool.not_true,Bool.not_false],n0⟩
    | false =>
     simp -dsimp [go_sem,hpe,hbe,p2,p3,p4,p5,p6,p7,p8,p9]
     refine call (rname_spec ⟨bx.toArray⟩ _ (by simp [ByteArray.size]; omega)) ?_
     rintro v w2 ⟨rfl,rfl⟩
     rw [show nameOk ⟨bx.toArray⟩ = nmOk bx from rfl]
     cases hbk:nmOk bx with
     | false =>
      simp -dsimp [go_sem,hU,hpe,hbe,hbk,p2,p3,p4,p5,p6,p7,p8,p9]
      exact ⟨by rw [chg7_eq]; simp only [hU,hpe,hbe,hbk,Bool.and_false,Bool.false_and,Bool.and_true,Bool.true_and,Bool.not_true,Bool.not_false],n0⟩
     | true =>
      cases hte:to.isEmpty with
      | false =>
       simp -dsimp [go_sem,hU,hpe,hbe,hbk,hte,p2,p3,p4,p5,p6,p7,p8,p9]
       exact ⟨by rw [chg7_eq]; simp only [hU,hpe,hbe,hbk,hte,Bool.and_false,Bool.false_and,Bool.and_true,Bool.true_and,Bool.not_true,Bool.not_false],n0⟩
      | true =>
       simp -dsimp [go_sem,hpe,hbe,hbk,hte,p2,p3,p4,p5,p6,p7,p8,p9]
       refine call (ruids14_spec ul A ca _ hr hl) ?_
       rintro v w4 ⟨rfl,k4⟩
       have hx4:=hx.nw k4
       have n4:=n0.nw k4
       have q5:=hx4.cell 5
       have q6:=hx4.cell 6
       have q7:=hx4.cell 7
       have q8:=hx4.cell 8
       have q9:=hx4.cell 9
       cases hul:uidsOk ul with
       | false =>
        simp -dsimp [go_sem,hU,hpe,hbe,hbk,hte,hul,q5,q6,q7,q8,q9]
        exact ⟨by rw [chg7_eq]; simp only [hU,hpe,hbe,hbk,hte,hul,Bool.and_false,Bool.false_and,Bool.and_true,Bool.true_and,Bool.not_true,Bool.not_false],n4⟩
       | true =>
        simp -dsimp [go_sem,hpe,hbe,hbk,hte,hul,q5,q6,q7,q8,q9]
        refine call (rin14_spec m 0 2 _) ?_
        rintro v w5 ⟨rfl,rfl⟩
        cases hm:okF m 0 2 with
        | false =>
         simp -dsimp [go_sem,hU,hpe,hbe,hbk,hte,hul,hm,q5,q6,q7,q8,q9]
         exact ⟨by rw [chg7_eq]; simp only [hU,hpe,hbe,hbk,hte,hul,hm,Bool.and_false,Bool.false_and,Bool.and_true,Bool.true_and,Bool.not_true,Bool.not_false],n4⟩
        | true =>
         simp -dsimp [go_sem,hpe,hbe,hbk,hte,hul,hm,q5,q6,q7,q8,q9]
         refine call (rin14_spec f 0 31 _) ?_
         rintro v w5 ⟨rfl,rfl⟩
         cases hf:okF f 0 31 with
         | false =>
          simp -dsimp [go_sem,hU,hpe,hbe,hbk,hte,hul,hm,hf,q5,q6,q7,q8,q9]
          exact ⟨by rw [chg7_eq]; simp only [hU,hpe,hbe,hbk,hte,hul,hm,hf,Bool.and_false,Bool.false_and,Bool.and_true,Bool.true_and,Bool.not_true,Bool.not_false],n4⟩
         | true =>
          simp -dsimp [go_sem,hpe,hbe,hbk,hte,hul,hm,hf,q5,q6,q7,q8,q9]
          refine call (rin14_spec d 0 1073741824 _) ?_
          rintro v w5 ⟨rfl,rfl⟩
          cases hd:okF d 0 1073741824 with
          | false =>
           simp -dsimp [go_sem,hU,hpe,hbe,hbk,hte,hul,hm,hf,hd,q5,q6,q7,q8,q9]
           exact ⟨by rw [chg7_eq]; simp only [hU,hpe,hbe,hbk,hte,hul,hm,hf,hd,Bool.and_false,Bool.false_and,Bool.and_true,Bool.true_and,Bool.not_true,Bool.not_false],n4⟩
          | true =>
           cases hbd:decide ((1200:Int) < (bd.length:Int)) with
           | true =>
            simp -dsimp [go_sem,hU,hpe,hbe,hbk,hte,hul,hm,hf,hd,hbd,q5,q6,q7,q8,q9]
            exact ⟨by rw [chg7_eq]; simp only [hU,hpe,hbe,hbk,hte,hul,hm,hf,hd,hbd,Bool.and_false,Bool.false_and,Bool.and_true,Bool.true_and,Bool.not_true,Bool.not_false],n4⟩
           | false =>
            cases hm0:(m == 0) with
            | false =>
             simp -dsimp [go_sem,hU,hpe,hbe,hbk,hte,hul,hm,hf,hd,hbd,hm0,q5,q6,q7,q8,q9]
             exact ⟨by rw [chg7_eq]; simp only [hU,hpe,hbe,hbk,hte,hul,hm,hf,hd,hbd,hm0,Bool.and_false,Bool.false_and,Bool.and_true,Bool.true_and,Bool.not_true,Bool.not_false],n4⟩
            | true =>
             cases hf0:(f == 0) with
             | false =>
              simp -dsimp [go_sem,hU,hpe,hbe,hbk,hte,hul,hm,hf,hd,hbd,hm0,hf0,q5,q6,q7,q8,q9]
              exact ⟨by rw [chg7_eq]; simp only [hU,hpe,hbe,hbk,hte,hul,hm,hf,hd,hbd,hm0,hf0,Bool.and_false,Bool.false_and,Bool.and_true,Bool.true_and,Bool.not_true,Bool.not_false],n4⟩
             | true =>
              cases hd0:(d == 0) with
              | false =>
               simp -dsimp [go_sem,hU,hpe,hbe,hbk,hte,hul,hm,hf,hd,hbd,hm0,hf0,hd0,q5,q6,q7,q8,q9]
               exact ⟨by rw [chg7_eq]; simp only [hU,hpe,hbe,hbk,hte,hul,hm,hf,hd,hbd,hm0,hf0,hd0,Bool.and_false,Bool.false_and,Bool.and_true,Bool.true_and,Bool.not_true,Bool.not_false],n4⟩
              | true =>
               simp -dsimp [go_sem,hpe,hbe,hbk,hte,hul,hm,hf,hd,hbd,hm0,hf0,hd0,q5,q6,q7,q8,q9]
               exact ⟨by rw [chg7_eq]; simp only [hU,hpe,hbe,hbk,hte,hul,hm,hf,hd,hbd,hm0,hf0,hd0,Bool.and_false,Bool.false_and,Bool.and_true,Bool.true_and,Bool.not_true,Bool.not_false],n4⟩
  ·skip
   cases hpe:ps.isEmpty with
   | false =>
    simp -dsimp [go_sem,hU,hpe,p2,p3,p4,p5,p6,p7,p8,p9]
    exact ⟨by rw [chg8_eq]; simp only [hU,hpe,Bool.and_false,Bool.false_and,Bool.and_true,Bool.true_and,Bool.not_true,Bool.not_false],n0⟩
   | true =>
    cases hbe:bx.isEmpty with
    | true =>
     simp -dsimp [go_sem,hU,hpe,hbe,p2,p3,p4,p5,p6,p7,p8,p9]
     exact ⟨by rw [chg8_eq]; simp only [hU,hpe,hbe,Bool.and_false,Bool.false_and,Bool.and_true,Bool.true_and,Bool.not_true,Bool.not_false],n0⟩
    | false =>
     simp -dsimp [go_sem,hpe,hbe,p2,p3,p4,p5,p6,p7,p8,p9]
     refine call (rname_spec ⟨bx.toArray⟩ _ (by simp [ByteArray.size]; omega)) ?_
     rintro v w2 ⟨rfl,rfl⟩
     rw [show nameOk ⟨bx.toArray⟩ = nmOk bx from rfl]
     cases hbk:nmOk bx with
     | false =>
      simp -dsimp [go_sem,hU,hpe,hbe,hbk,p2,p3,p4,p5,p6,p7,p8,p9]
      exact ⟨by rw [chg8_eq]; simp only [hU,hpe,hbe,hbk,Bool.and_false,Bool.false_and,Bool.and_true,Bool.true_and,Bool.not_true,Bool.not_false],n0⟩
     | true =>
      simp -dsimp [go_sem,hpe,hbe,hbk,p2,p3,p4,p5,p6,p7,p8,p9]
      refine call (rname_spec ⟨to.toArray⟩ _ (by simp [ByteArray.size]; omega)) ?_
      rintro v w3 ⟨rfl,rfl⟩
      rw [show nameOk ⟨to.toArray⟩ = nmOk to from rfl]
      cases htk:nmOk to with
      | false =>
       simp -dsimp [go_sem,hU,hpe,hbe,hbk,htk,p2,p3,p4,p5,p6,p7,p8,p9]
       exact ⟨by rw [chg8_eq]; simp only [hU,hpe,hbe,hbk,htk,Bool.and_false,Bool.false_and,Bool.and_true,Bool.true_and,Bool.not_true,Bool.not_false],n0⟩
      | true =>
       simp -dsimp [go_sem,hpe,hbe,hbk,htk,p2,p3,p4,p5,p6,p7,p8,p9]
       refine call (ruids14_spec ul A ca _ hr hl) ?_
       rintro v w4 ⟨rfl,k4⟩
       have hx4:=hx.nw k4
       have n4:=n0.nw k4
       have q5:=hx4.cell 5
       have q6:=hx4.cell 6
       have q7:=hx4.cell 7
       have q8:=hx4.cell 8
       have q9:=hx4.cell 9
       cases hul:uidsOk ul with
       | false =>
        simp -dsimp [go_sem,hU,hpe,hbe,hbk,htk,hul,q5,q6,q7,q8,q9]
        exact ⟨by rw [chg8_eq]; simp only [hU,hpe,hbe,hbk,htk,hul,Bool.and_false,Bool.false_and,Bool.and_true,Bool.true_and,Bool.not_true,Bool.not_false],n4⟩
       | true =>
        simp -dsimp [go_sem,hpe,hbe,hbk,htk,hul,q5,q6,q7,q8,q9]
        refine call (rin14_spec m 0 2 _) ?_
        rintro v w5 ⟨rfl,rfl⟩
        cases hm:okF m 0 2 with
        | false =>
         simp -dsimp [go_sem,hU,hpe,hbe,hbk,htk,hul,hm,q5,q6,q7,q8,q9]
         exact ⟨by rw [chg8_eq]; simp only [hU,hpe,hbe,hbk,htk,hul,hm,Bool.and_false,Bool.false_and,Bool.and_true,Bool.true_and,Bool.not_true,Bool.not_false],n4⟩
        | true =>
         simp -dsimp [go_sem,hpe,hbe,hbk,htk,hul,hm,q5,q6,q7,q8,q9]
         refine call (rin14_spec f 0 31 _) ?_
         rintro v w5 ⟨rfl,rfl⟩
         cases hf:okF f 0 31 with
         | false =>
          simp -dsimp [go_sem,hU,hpe,hbe,hbk,htk,hul,hm,hf,q5,q6,q7,q8,q9]
          exact ⟨by rw [chg8_eq]; simp only [hU,hpe,hbe,hbk,htk,hul,hm,hf,Bool.and_false,Bool.false_and,Bool.and_true,Bool.true_and,Bool.not_true,Bool.not_false],n4⟩
         | true =>
          simp -dsimp [go_sem,hpe,hbe,hbk,htk,hul,hm,hf,q5,q6,q7,q8,q9]
          refine call (rin14_spec d 0 1073741824 _) ?_
          rintro v w5 ⟨rfl,rfl⟩
          cases hd:okF d 0 1073741824 with
          | false =>
           simp -dsimp [go_sem,hU,hpe,hbe,hbk,htk,hul,hm,hf,hd,q5,q6,q7,q8,q9]
           exact ⟨by rw [chg8_eq]; simp only [hU,hpe,hbe,hbk,htk,hul,hm,hf,hd,Bool.and_false,Bool.false_and,Bool.and_true,Bool.true_and,Bool.not_true,Bool.not_false],n4⟩
          | true =>
           cases hbd:decide ((1200:Int) < (bd.length:Int)) with
           | true =>
            simp -dsimp [go_sem,hU,hpe,hbe,hbk,htk,hul,hm,hf,hd,hbd,q5,q6,q7,q8,q9]
            exact ⟨by rw [chg8_eq]; simp only [hU,hpe,hbe,hbk,htk,hul,hm,hf,hd,hbd,Bool.and_false,Bool.false_and,Bool.and_true,Bool.true_and,Bool.not_true,Bool.not_false],n4⟩
           | false =>
            cases hm0:(m == 0) with
            | false =>
             simp -dsimp [go_sem,hU,hpe,hbe,hbk,htk,hul,hm,hf,hd,hbd,hm0,q5,q6,q7,q8,q9]
             exact ⟨by rw [chg8_eq]; simp only [hU,hpe,hbe,hbk,htk,hul,hm,hf,hd,hbd,hm0,Bool.and_false,Bool.false_and,Bool.and_true,Bool.true_and,Bool.not_true,Bool.not_false],n4⟩
            | true =>
             cases hf0:(f == 0) with
             | false =>
              simp -dsimp [go_sem,hU,hpe,hbe,hbk,htk,hul,hm,hf,hd,hbd,hm0,hf0,q5,q6,q7,q8,q9]
              exact ⟨by rw [chg8_eq]; simp only [hU,hpe,hbe,hbk,htk,hul,hm,hf,hd,hbd,hm0,hf0,Bool.and_false,Bool.false_and,Bool.and_true,Bool.true_and,Bool.not_true,Bool.not_false],n4⟩
             | true =>
              cases hd0:(d == 0) with
              | false =>
               simp -dsimp [go_sem,hU,hpe,hbe,hbk,htk,hul,hm,hf,hd,hbd,hm0,hf0,hd0,q5,q6,q7,q8,q9]
               exact ⟨by rw [chg8_eq]; simp only [hU,hpe,hbe,hbk,htk,hul,hm,hf,hd,hbd,hm0,hf0,hd0,Bool.and_false,Bool.false_and,Bool.and_true,Bool.true_and,Bool.not_true,Bool.not_false],n4⟩
              | true =>
               simp -dsimp [go_sem,hpe,hbe,hbk,htk,hul,hm,hf,hd,hbd,hm0,hf0,hd0,q5,q6,q7,q8,q9]
               exact ⟨by rw [chg8_eq]; simp only [hU,hpe,hbe,hbk,htk,hul,hm,hf,hd,hbd,hm0,hf0,hd0,Bool.and_false,Bool.false_and,Bool.and_true,Bool.true_and,Bool.not_true,Bool.not_false],n4⟩
end Go.Proofs.YtellahclbhfdiaaGreatDoor
