/- The law FnExactConstants, walked: it returns true. -/
import Derived.Test.YtcbamaocccmbgaaRows
import Derived.WalkKit
import Derived.WalkLawsBesides
import Derived.Below
namespace Go.Proofs.Ytcbamaocccmbgaa.fnExactConstants
open Go.RowKit
set_option linter.unusedVariables false

theorem walk (w : World) : Calls Try.prog 3 #[] w fun e w' => e = .returned (.bool true) ∧ Below w.heap.size w w' := by
  go_enter Try.func3, Try.ntmps3
  go_wp2
  go_ret
  exact ⟨rfl, Below.refl _ _⟩
end Go.Proofs.Ytcbamaocccmbgaa.fnExactConstants
