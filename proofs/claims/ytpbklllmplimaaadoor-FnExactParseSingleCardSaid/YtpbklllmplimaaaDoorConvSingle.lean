/- One single goes to float64 twice: both are the same. -/
import Derived.Test.YtpbklllmplimaaaDoorFlRun
namespace Go.Proofs.YtpbklllmplimaaaDoor.same
open Go.RowKit Fl
set_option linter.unusedVariables false

/-- what the laws ask of two results that are one single: it goes to float64 twice, and both are the same -/
theorem conv_single (v : Nat) (w : World) : ∃ (g : World → Nat) (d : World → World), (∀ w, (convert 22 26 (.float .f32 v)).run Tryd.prog w = .ok (.float .f64 (g w)) (d w)) ∧ (∀ w w', smB (g w) (g w') = true) ∧ (∀ w, g w < 2 ^ 64) ∧ ∀ w, d w = w ∨ d w = w.drew := by
  cases hv : num S v with
  | false =>
    obtain ⟨g, hg, r⟩ := run_conv_nan Tryd.prog (s := .f32) (k := .f64) (by decide) hv 22 26 (by kernel_rfl) Tryd.underlying26
    exact ⟨g, World.drew, r, fun w w' => smB_nan (hg w).1 (hg w').1, fun w => (hg w).2, fun w => Or.inr rfl⟩
  | true =>
    obtain ⟨h1, h2, _, h3⟩ := up_num hv
    exact ⟨fun _ => up v, id, fun w => run_convert_float_float (P := Tryd.prog) w 22 26 .f32 .f64 v (up v) (by kernel_rfl) Tryd.underlying26 h1, fun _ _ => smB_refl _, fun _ => h3, fun w => Or.inl rfl⟩
end Go.Proofs.YtpbklllmplimaaaDoor.same
