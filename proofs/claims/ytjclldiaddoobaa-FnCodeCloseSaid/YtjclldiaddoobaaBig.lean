/- The contract of the laws' size test. -/
import Derived.Test.YtjclldiaddoobaaBase
namespace Go.Proofs.Ytjclldiaddoobaa.base
open Go.RowKit
theorem big (A : Option Addr) (n c : Nat) (w : World) : Calls Try.prog 42 #[.slice A n c] w fun e w' => e = .returned (.bool (decide ((n : Int) > 1048576))) ∧ w = w' := by
  go_enter Try.func42, Try.ntmps42
  go_wp2
  go_ret
  exact ⟨by simp, rfl⟩
end Go.Proofs.Ytjclldiaddoobaa.base
