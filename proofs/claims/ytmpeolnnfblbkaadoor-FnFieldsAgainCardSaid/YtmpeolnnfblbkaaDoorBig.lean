/- The contract of the laws' size test. -/
import Derived.Test.YtmpeolnnfblbkaaDoorBase
namespace Go.Proofs.YtmpeolnnfblbkaaDoor.base
open Go.RowKit
theorem big (A : Option Addr) (n c : Nat) (w : World) : Calls Tryd.prog 18 #[.slice A n c] w fun e w' => e = .returned (.bool (decide ((n : Int) > 1048576))) ∧ w = w' := by
  go_enter Tryd.func18, Tryd.ntmps18
  go_wp2
  go_ret
  exact ⟨by simp, rfl⟩
end Go.Proofs.YtmpeolnnfblbkaaDoor.base
