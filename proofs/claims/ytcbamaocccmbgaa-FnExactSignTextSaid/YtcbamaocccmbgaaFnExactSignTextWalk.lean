/- The law FnExactSignText, walked: it returns true. -/
import Derived.Test.YtcbamaocccmbgaaRows
import Derived.Test.YtcbamaocccmbgaaSignText
namespace Go.Proofs.Ytcbamaocccmbgaa.fnExactSignText
open Go.RowKit same Fl
set_option linter.unusedVariables false

theorem walk (a : Nat) (w0 : (Lit.float .f32 a).wf = true) (w : World) :
    Calls Try.prog 6 #[.float .f32 a] w fun e w' => e = .returned (.bool true) ∧ Below w.heap.size w w' := by
  clear w0
  go_enter Try.func6, Try.ntmps6
  go_wp2_with fail
  refine (spec_SignText a _).mono ?_
  rintro e w1 ⟨rfl, rfl⟩
  go_wp2_with fail
  refine (impl_SignText a _).mono ?_
  rintro e w2 ⟨rfl, rfl⟩
  go_wp2_with fail
  go_ret
  exact ⟨rfl, Below.refl _ _⟩
end Go.Proofs.Ytcbamaocccmbgaa.fnExactSignText
