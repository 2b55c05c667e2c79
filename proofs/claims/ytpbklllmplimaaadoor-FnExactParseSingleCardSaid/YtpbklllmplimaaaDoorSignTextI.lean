/- The contract of SignText. -/
import Derived.Test.YtpbklllmplimaaaDoorFlRun
import Derived.Test.YtpbklllmplimaaaDoorSignbit
namespace Go.Proofs.YtpbklllmplimaaaDoor.same
open Go.RowKit Fl
set_option linter.unusedVariables false

theorem impl_SignText (x : Nat) (w : World) : Calls Tryd.prog 14 #[.float .f32 x] w fun e w' => e = .returned (.string (signTx x)) ∧ w = w' := by
  cases hx : num S x with
  | false =>
    have h1 := ordNanL hx x
    have hfin : signTx x = ⟨#[]⟩ := by simp [signTx, hx]
    rw [hfin]
    clear hx hfin
    go_enter Tryd.func14, Tryd.ntmps14
    go_wp2
    go_ret
    exact ⟨rfl, rfl⟩
  | true =>
    have h1 := ordSelf hx
    obtain ⟨u1, u2, u3, u4⟩ := up_num hx
    have ra := fun w => run_convert_float_float (P := Tryd.prog) w 22 26 .f32 .f64 x (up x) (by kernel_rfl) Tryd.underlying26 u1
    cases hs : ng S x with
    | true =>
      have hfin : signTx x = ⟨#[45]⟩ := by simp [signTx, hx, hs]
      rw [hfin]
      rw [hs] at u3
      clear hx hs hfin u1 u2
      go_enter Tryd.func14, Tryd.ntmps14
      go_wp2_with (go_at_call 34; refine (signbit _ u4 _).mono ?_; rintro e w1 ⟨rfl, rfl⟩)
      go_ret
      exact ⟨rfl, rfl⟩
    | false =>
      have hfin : signTx x = ⟨#[43]⟩ := by simp [signTx, hx, hs]
      rw [hfin]
      rw [hs] at u3
      clear hx hs hfin u1 u2
      go_enter Tryd.func14, Tryd.ntmps14
      go_wp2_with (go_at_call 34; refine (signbit _ u4 _).mono ?_; rintro e w1 ⟨rfl, rfl⟩)
      go_ret
      exact ⟨rfl, rfl⟩
end Go.Proofs.YtpbklllmplimaaaDoor.same
