/- The contract of IsNaN. -/
import Derived.Test.YtpbklllmplimaaaDoorFlRun
namespace Go.Proofs.YtpbklllmplimaaaDoor.same
open Go.RowKit Fl
set_option linter.unusedVariables false

theorem isNaN (a : Nat) (w : World) : Calls Tryd.prog 69 #[.float .f64 a] w fun e w' => e = .returned (.bool (!num D a)) ∧ w = w' := by
  cases h : num D a with
  | true =>
    have h1 := ordSelf h
    clear h
    go_enter Tryd.func69, Tryd.ntmps69
    go_wp2
    go_ret
    exact ⟨by simp, rfl⟩
  | false =>
    have h1 := ordNanL h a
    clear h
    go_enter Tryd.func69, Tryd.ntmps69
    go_wp2
    go_ret
    exact ⟨by simp, rfl⟩
end Go.Proofs.YtpbklllmplimaaaDoor.same
