/- The contract of IsNaN. -/
import Derived.Test.YtpbklllmplimaaaFlRun
namespace Go.Proofs.Ytpbklllmplimaaa.same
open Go.RowKit Fl
set_option linter.unusedVariables false

theorem isNaN (a : Nat) (w : World) : Calls Try.prog 43 #[.float .f64 a] w fun e w' => e = .returned (.bool (!num D a)) ∧ w = w' := by
  cases h : num D a with
  | true =>
    have h1 := ordSelf h
    clear h
    go_enter Try.func43, Try.ntmps43
    go_wp2
    go_ret
    exact ⟨by simp, rfl⟩
  | false =>
    have h1 := ordNanL h a
    clear h
    go_enter Try.func43, Try.ntmps43
    go_wp2
    go_ret
    exact ⟨by simp, rfl⟩
end Go.Proofs.Ytpbklllmplimaaa.same
