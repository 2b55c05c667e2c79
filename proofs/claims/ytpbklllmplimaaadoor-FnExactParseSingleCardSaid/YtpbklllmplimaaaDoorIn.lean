/- The contract of the test of a range of whole numbers. -/
import Derived.Test.YtpbklllmplimaaaDoorBase
namespace Go.Proofs.YtpbklllmplimaaaDoor.inR
open Go.RowKit
set_option linter.unusedVariables false

theorem l01In_any (n l h : Int) (w : World) : Calls Tryd.prog 42 #[.int .i64 n, .int .i64 l, .int .i64 h] w fun e w' => e = .returned (.bool (decide (l ≤ n ∧ n ≤ h))) ∧ w = w' := by
  by_cases h1 : l ≤ n
  · by_cases h2 : n ≤ h
    · go_enter Tryd.func42, Tryd.ntmps42
      go_wp2
      go_ret
      exact ⟨by simp [h1, h2], rfl⟩
    · go_enter Tryd.func42, Tryd.ntmps42
      go_wp2
      go_ret
      exact ⟨by simp; omega, rfl⟩
  · go_enter Tryd.func42, Tryd.ntmps42
    go_wp2
    go_ret
    exact ⟨by simp; omega, rfl⟩
end Go.Proofs.YtpbklllmplimaaaDoor.inR
