/- Contracts of Signbit and Float64bits. -/
import Derived.Test.YtpbklllmplimaaaFlRun
import Derived.Laws.Externs
namespace Go.Proofs.Ytpbklllmplimaaa.same
open Go.RowKit Fl
set_option linter.unusedVariables false

theorem run_float64bits (a : Nat) (w : World) : (callFunc 38 #[.float .f64 a]).run Try.prog w = .ok (.value (.int .u64 a)) w := by
  rw [run_callFunc_extern (e := Extern.MathFloatBits.float64bits) Try.func38 (by kernel_rfl) (by kernel_rfl) (by kernel_rfl) (by kernel_rfl)]
  rfl

theorem signbit (a : Nat) (ha : a < 2 ^ 64) (w : World) : Calls Try.prog 30 #[.float .f64 a] w fun e w' => e = .returned (.bool (ng D a)) ∧ w = w' := by
  have hb := run_float64bits a
  have H : Hid (ng D a = decide (wrap64 (a : Int) < 0)) := by
    show ng D a = _
    have e : ng D a = decide (9223372036854775808 ≤ a) := by
      unfold ng; rw [D_W]
      by_cases h : 9223372036854775808 ≤ a
      · have : a / 9223372036854775808 = 1 := by omega
        simp [h, this]
      · have : a / 9223372036854775808 = 0 := by omega
        simp [h, this]
    rw [e]
    congr 1
    apply propext
    unfold wrap64
    omega
  go_enter Try.func30, Try.ntmps30
  go_wp2
  go_ret
  refine ⟨?_, rfl⟩
  rw [H.out]
  rfl
end Go.Proofs.Ytpbklllmplimaaa.same
