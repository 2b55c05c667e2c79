/- Contracts of Signbit and Float64bits. -/
import Derived.Test.YtpbklllmplimaaaDoorFlRun
import Derived.Laws.Externs
namespace Go.Proofs.YtpbklllmplimaaaDoor.same
open Go.RowKit Fl
set_option linter.unusedVariables false

theorem run_float64bits (a : Nat) (w : World) : (callFunc 52 #[.float .f64 a]).run Tryd.prog w = .ok (.value (.int .u64 a)) w := by
  rw [run_callFunc_extern (e := Extern.MathFloatBits.float64bits) Tryd.func52 (by kernel_rfl) (by kernel_rfl) (by kernel_rfl) (by kernel_rfl)]
  rfl

theorem signbit (a : Nat) (ha : a < 2 ^ 64) (w : World) : Calls Tryd.prog 34 #[.float .f64 a] w fun e w' => e = .returned (.bool (ng D a)) ∧ w = w' := by
  have hb := run_float64bits a
  have H : Hid (ng D a = decide (wrap64 (a : Int) < 0)) := by
    show ng D a = _
    have e : ng D a = decide (9223372036854775808 ≤ a) := by
      unfold ng; rw [D_W]
      by_cases h : 9223372036854775808 ≤ a
      · have : a / 9223372036854775808 = 1 := by omega
        simp [h, this]
      · have : a / 9223372036854775808 = 0 := by omega
        simp [h, this]
    rw [e]
    congr 1
    apply propext
    unfold wrap64
    omega
  go_enter Tryd.func34, Tryd.ntmps34
  go_wp2
  go_ret
  refine ⟨?_, rfl⟩
  rw [H.out]
  rfl
end Go.Proofs.YtpbklllmplimaaaDoor.same
