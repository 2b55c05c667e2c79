/- The contract of the laws' size test. -/
import Derived.Test.YtpbklllmplimaaaBase
namespace Go.Proofs.Ytpbklllmplimaaa.base
open Go.RowKit
theorem big (A : Option Addr) (n c : Nat) (w : World) : Calls Try.prog 14 #[.slice A n c] w fun e w' => e = .returned (.bool (decide ((n : Int) > 1048576))) ∧ w = w' := by
  go_enter Try.func14, Try.ntmps14
  go_wp2
  go_ret
  exact ⟨by simp, rfl⟩
end Go.Proofs.Ytpbklllmplimaaa.base
