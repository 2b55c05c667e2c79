/- The law FnExactSameSingle, walked: it returns true. -/
import Derived.Test.YtcbamaocccmbgaaRows
import Derived.Test.YtcbamaocccmbgaaSameSingle
namespace Go.Proofs.Ytcbamaocccmbgaa.fnExactSameSingle
open Go.RowKit same Fl
set_option linter.unusedVariables false

theorem walk (a : Nat) (w0 : (Lit.float .f32 a).wf = true) (b : Nat) (w1 : (Lit.float .f32 b).wf = true) (w : World) :
    Calls Try.prog 7 #[.float .f32 a, .float .f32 b] w fun e w' => e = .returned (.bool true) ∧ Below w.heap.size w w' := by
  clear w0 w1
  go_enter Try.func7, Try.ntmps7
  go_wp2_with fail
  refine (spec_SameSingle a b _).mono ?_
  rintro e w1 ⟨rfl, b1⟩
  go_wp2_with fail
  refine (impl_SameSingle a b _).mono ?_
  rintro e w2 ⟨rfl, b2⟩
  go_wp2_with fail
  go_ret
  exact ⟨rfl, b1.trans (b2.mono b1.size)⟩
end Go.Proofs.Ytcbamaocccmbgaa.fnExactSameSingle
