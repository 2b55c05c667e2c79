/- The law FnExactTurnOk, walked: it returns true. -/
import Derived.Test.YtcbamaocccmbgaaRows
import Derived.Test.YtcbamaocccmbgaaBase
import Derived.Test.YtcbamaocccmbgaaTurnA
namespace Go.Proofs.Ytcbamaocccmbgaa.fnExactTurnOk
open Go.RowKit turnA base
set_option linter.unusedVariables false

theorem walk (a : Int) (w0 : (Lit.int .i64 a).wf = true) (b : Int) (w1 : (Lit.int .i64 b).wf = true) (w : World) :
    Calls Try.prog 4 #[.agg #[.int .i64 a, .int .i64 b]] w fun e w' => e = .returned (.bool true) ∧ Below w.heap.size w w' := by
  clear w0 w1
  go_enter Try.func4, Try.ntmps4
  go_wp2_with fail
  refine (toTurn_any a b _).mono ?_
  rintro e w1 ⟨rfl, b1⟩
  obtain ⟨hc, hf⟩ := bcell b1
  have hz := b1.size
  simp only [World.size_alloc] at hz hc hf
  have hz1 : w.heap.size < w1.heap.size := by omega
  go_wp2_with fail
  refine (spec_TurnOk a b _).mono ?_
  rintro e w2 ⟨rfl, b2⟩
  obtain ⟨hc2, hf2⟩ := bcell b2
  have hz2 := b2.size
  go_wp2_with fail
  refine (toTurn_any a b _).mono ?_
  rintro e w3 ⟨rfl, b3⟩
  go_wp2_with fail
  refine (impl_TurnOk a b _).mono ?_
  rintro e w4 ⟨rfl, b4⟩
  go_wp2_with fail
  go_ret
  refine ⟨rfl, ?_⟩
  have b0 : Below w.heap.size w (w.alloc (.cells #[.int .i64 a, .int .i64 b] 24)) := (Below.refl _ _).alloc (Nat.le_refl _) _
  exact (((b0.trans (b1.mono (by simp))).trans (b2.mono (by omega))).trans (b3.mono (by omega))).trans (b4.mono (by have := b3.size; omega))
end Go.Proofs.Ytcbamaocccmbgaa.fnExactTurnOk
