/-
  box: Mark walked. By the session itself.
-/
import Derived.Test.YtindfpaahlijeaaDoorBxD
import Derived.Test.YtindfpaahlijeaaDoorBxE
namespace Go.Proofs.YtindfpaahlijeaaDoor
set_option linter.unusedSimpArgs false
set_option linter.unusedVariables false
set_option maxRecDepth 100000
set_option maxHeartbeats 2000000
open Go.Vc Go.RowKit

def mk1 (uids : List Int) (mode flags : Int) (m : Msg) : Msg := if m.uid ∈ uids then { m with flags := applyF mode m.flags flags } else m
def mkP (uids : List Int) (mode flags : Int) (p : Msg × Value) : Msg × Value := (mk1 uids mode flags p.1, p.2)
def markN (uids : List Int) (mode flags : Int) (L : List Msg) : Nat := (L.filter fun m => decide (m.uid ∈ uids) && (applyF mode m.flags flags != m.flags)).length
theorem mkP_fst (uids : List Int) (mode flags : Int) (q : MQ) : (q.map (mkP uids mode flags)).map Prod.fst = (q.map Prod.fst).map (mk1 uids mode flags) := by simp [mkP]
def MarkR (v : Value) (w' : World) (b : Bx) (n : Nat) (B : Nat) : Prop := ∃ bv, v = .tuple #[bv, i64 n] ∧ OB w' bv b B
theorem markN_le (uids : List Int) (mode flags : Int) (L : List Msg) : markN uids mode flags L ≤ L.length := List.length_filter_le _ _
end Go.Proofs.YtindfpaahlijeaaDoor
