/- The contract of Signed. -/
import Derived.Test.YtpbklllmplimaaaDoorFlRun
namespace Go.Proofs.YtpbklllmplimaaaDoor.same
open Go.RowKit Fl
set_option linter.unusedVariables false

theorem impl_Signed (s : ByteArray) (x : Nat) (w : World) : Calls Tryd.prog 23 #[.string s, .float .f32 x] w fun e w' => e = .returned (.tuple #[.float .f32 (sgnV s x), .bool (sgnOk s)]) ∧ w = w' := by
  have hn := fun k b => unary_neg_float k b
  cases h1 : (s.toList == [43]) with
  | true =>
    have e1 : sgnV s x = x := by simp only [sgnV, h1, if_true]
    have e2 : sgnOk s = true := by simp only [sgnOk, h1, Bool.true_or]
    rw [e1, e2]; clear e1 e2
    go_enter Tryd.func23, Tryd.ntmps23
    go_wp2
    go_ret2
    exact ⟨rfl, rfl⟩
  | false =>
    cases h2 : (s.toList == [45]) with
    | true =>
      have e1 : sgnV s x = Op.negFloat .f32 x := by simp only [sgnV, h1, h2, if_true, Bool.false_eq_true, if_false]
      have e2 : sgnOk s = true := by simp only [sgnOk, h2, Bool.or_true]
      rw [e1, e2]; clear e1 e2
      go_enter Tryd.func23, Tryd.ntmps23
      go_wp2
      go_ret2
      exact ⟨rfl, rfl⟩
    | false =>
      have e1 : sgnV s x = 0 := by simp only [sgnV, h1, h2, Bool.false_eq_true, if_false]
      have e2 : sgnOk s = false := by simp only [sgnOk, h1, h2, Bool.or_false]
      rw [e1, e2]; clear e1 e2
      go_enter Tryd.func23, Tryd.ntmps23
      go_wp2
      go_ret2
      exact ⟨rfl, rfl⟩

end Go.Proofs.YtpbklllmplimaaaDoor.same
