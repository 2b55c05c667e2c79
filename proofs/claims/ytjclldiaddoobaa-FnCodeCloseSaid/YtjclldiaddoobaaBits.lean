/- What Float64bits gives. -/
import Derived.Test.YtjclldiaddoobaaFlRun
import Derived.Laws.Externs
namespace Go.Proofs.Ytjclldiaddoobaa.same
open Go.RowKit Fl
set_option linter.unusedVariables false

theorem run_float64bits (a : Nat) (w : World) : (callFunc 69 #[.float .f64 a]).run Try.prog w = .ok (.value (.int .u64 a)) w := by
  rw [run_callFunc_extern (e := Extern.MathFloatBits.float64bits) Try.func69 (by kernel_rfl) (by kernel_rfl) (by kernel_rfl) (by kernel_rfl)]
  rfl
end Go.Proofs.Ytjclldiaddoobaa.same
