/- The contract of the laws' size test. -/
import Derived.Test.YtpbklllmplimaaaDoorBase
namespace Go.Proofs.YtpbklllmplimaaaDoor.base
open Go.RowKit
theorem big (A : Option Addr) (n c : Nat) (w : World) : Calls Tryd.prog 10 #[.slice A n c] w fun e w' => e = .returned (.bool (decide ((n : Int) > 1048576))) ∧ w = w' := by
  go_enter Tryd.func10, Tryd.ntmps10
  go_wp2
  go_ret
  exact ⟨by simp, rfl⟩
end Go.Proofs.YtpbklllmplimaaaDoor.base
