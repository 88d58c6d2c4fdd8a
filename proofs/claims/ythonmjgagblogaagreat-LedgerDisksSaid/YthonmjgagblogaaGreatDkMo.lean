/-
  DiskNames walked: a file that gets another name has its bytes; what had that name is gone. By the session itself.
-/
import Derived.Test.YthonmjgagblogaaGreatDkL
import Derived.Test.YthonmjgagblogaaGreatTx
import Derived.Test.YthonmjgagblogaaGreatDkFo
namespace Go.Proofs.YthonmjgagblogaaGreat
set_option linter.unusedSimpArgs false
set_option linter.unusedVariables false
set_option maxRecDepth 100000
set_option maxHeartbeats 1000000
open Go.Vc Go.RowKit

theorem lt_xy : ([120] : Nm) < [121] := by decide
theorem bad120 : badN [120] = false := by decide
theorem bad121 : badN [121] = false := by decide
theorem bad122 : badN [122] = false := by decide
end Go.Proofs.YthonmjgagblogaaGreat
