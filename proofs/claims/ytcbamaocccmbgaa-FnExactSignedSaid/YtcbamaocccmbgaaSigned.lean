/- Contracts of Signed in both packages. -/
import Derived.Test.YtcbamaocccmbgaaSameFloat
namespace Go.Proofs.Ytcbamaocccmbgaa.same
open Go.RowKit Fl
set_option linter.unusedVariables false

theorem unary_neg_float (k : FloatKind) (b : Nat) : Op.unary .neg (.float k b) = pure (.float k (Op.negFloat k b)) := rfl
/-- a single with a sign, and whether the text is a sign -/
def sgnV (s : ByteArray) (x : Nat) : Nat := if (s.toList == [43]) = true then x else if (s.toList == [45]) = true then Op.negFloat .f32 x else 0
def sgnOk (s : ByteArray) : Bool := s.toList == [43] || s.toList == [45]

theorem spec_Signed (s : ByteArray) (x : Nat) (w : World) : Calls Try.prog 18 #[.string s, .float .f32 x] w fun e w' => e = .returned (.tuple #[.float .f32 (sgnV s x), .bool (sgnOk s)]) ∧ w = w' := by
  have hn := fun k b => unary_neg_float k b
  cases h1 : (s.toList == [43]) with
  | true =>
    have e1 : sgnV s x = x := by simp only [sgnV, h1, if_true]
    have e2 : sgnOk s = true := by simp only [sgnOk, h1, Bool.true_or]
    rw [e1, e2]; clear e1 e2
    go_enter Try.func18, Try.ntmps18
    go_wp2
    go_ret2
    exact ⟨rfl, rfl⟩
  | false =>
    cases h2 : (s.toList == [45]) with
    | true =>
      have e1 : sgnV s x = Op.negFloat .f32 x := by simp only [sgnV, h1, h2, if_true, Bool.false_eq_true, if_false]
      have e2 : sgnOk s = true := by simp only [sgnOk, h2, Bool.or_true]
      rw [e1, e2]; clear e1 e2
      go_enter Try.func18, Try.ntmps18
      go_wp2
      go_ret2
      exact ⟨rfl, rfl⟩
    | false =>
      have e1 : sgnV s x = 0 := by simp only [sgnV, h1, h2, Bool.false_eq_true, if_false]
      have e2 : sgnOk s = false := by simp only [sgnOk, h1, h2, Bool.or_false]
      rw [e1, e2]; clear e1 e2
      go_enter Try.func18, Try.ntmps18
      go_wp2
      go_ret2
      exact ⟨rfl, rfl⟩

theorem impl_Signed (s : ByteArray) (x : Nat) (w : World) : Calls Try.prog 19 #[.string s, .float .f32 x] w fun e w' => e = .returned (.tuple #[.float .f32 (sgnV s x), .bool (sgnOk s)]) ∧ w = w' := by
  have hn := fun k b => unary_neg_float k b
  cases h1 : (s.toList == [43]) with
  | true =>
    have e1 : sgnV s x = x := by simp only [sgnV, h1, if_true]
    have e2 : sgnOk s = true := by simp only [sgnOk, h1, Bool.true_or]
    rw [e1, e2]; clear e1 e2
    go_enter Try.func19, Try.ntmps19
    go_wp2
    go_ret2
    exact ⟨rfl, rfl⟩
  | false =>
    cases h2 : (s.toList == [45]) with
    | true =>
      have e1 : sgnV s x = Op.negFloat .f32 x := by simp only [sgnV, h1, h2, if_true, Bool.false_eq_true, if_false]
      have e2 : sgnOk s = true := by simp only [sgnOk, h2, Bool.or_true]
      rw [e1, e2]; clear e1 e2
      go_enter Try.func19, Try.ntmps19
      go_wp2
      go_ret2
      exact ⟨rfl, rfl⟩
    | false =>
      have e1 : sgnV s x = 0 := by simp only [sgnV, h1, h2, Bool.false_eq_true, if_false]
      have e2 : sgnOk s = false := by simp only [sgnOk, h1, h2, Bool.or_false]
      rw [e1, e2]; clear e1 e2
      go_enter Try.func19, Try.ntmps19
      go_wp2
      go_ret2
      exact ⟨rfl, rfl⟩

/-- what the laws ask of two results that are one single: it goes to float64 twice, and both are the same -/
theorem conv_single (v : Nat) (w : World) : ∃ (g : World → Nat) (d : World → World), (∀ w, (convert 31 38 (.float .f32 v)).run Try.prog w = .ok (.float .f64 (g w)) (d w)) ∧ (∀ w w', smB (g w) (g w') = true) ∧ (∀ w, g w < 2 ^ 64) ∧ ∀ w, d w = w ∨ d w = w.drew := by
  cases hv : num S v with
  | false =>
    obtain ⟨g, hg, r⟩ := run_conv_nan Try.prog (s := .f32) (k := .f64) (by decide) hv 31 38 (by kernel_rfl) Try.underlying38
    exact ⟨g, World.drew, r, fun w w' => smB_nan (hg w).1 (hg w').1, fun w => (hg w).2, fun w => Or.inr rfl⟩
  | true =>
    obtain ⟨h1, h2, _, h3⟩ := up_num hv
    exact ⟨fun _ => up v, id, fun w => run_convert_float_float (P := Try.prog) w 31 38 .f32 .f64 v (up v) (by kernel_rfl) Try.underlying38 h1, fun _ _ => smB_refl _, fun _ => h3, fun w => Or.inl rfl⟩
theorem below_of_or {W w w' : World} (h : Below W.heap.size W w) (e : w' = w ∨ w' = w.drew) : Below W.heap.size W w' := by
  rcases e with rfl | rfl
  · exact h
  · exact h.drew
end Go.Proofs.Ytcbamaocccmbgaa.same
