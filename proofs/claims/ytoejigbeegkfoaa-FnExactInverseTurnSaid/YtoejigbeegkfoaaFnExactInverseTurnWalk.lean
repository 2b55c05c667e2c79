/- The law FnExactInverseTurn, walked: it returns true. -/
import Derived.Test.YtoejigbeegkfoaaRows
import Derived.Test.YtoejigbeegkfoaaTurnB
namespace Go.Proofs.Ytoejigbeegkfoaa.fnExactInverseTurn
open Go.RowKit turnA base
set_option linter.unusedVariables false

set_option maxHeartbeats 400000 in
theorem walk (a : Int) (w0 : (Lit.int .i64 a).wf = true) (b : Int) (w1 : (Lit.int .i64 b).wf = true) (w : World) :
    Calls Try.prog 3 #[.agg #[.int .i64 a, .int .i64 b]] w fun e w' => e = .returned (.bool true) ∧ Below w.heap.size w w' := by
  go_enter Try.func3, Try.ntmps3
  go_wp2_with fail
  refine (toTurn_any a b _).mono ?_
  rintro e w1 ⟨rfl, b1⟩
  have B1 := Lib.hid b1
  obtain ⟨hc1, hf1⟩ := bcell b1
  have hz1 := b1.size
  try simp only [World.size_alloc] at hz1 hc1 hf1
  have y1a : w.heap.size < w1.heap.size := by omega
  clear b1
  go_wp2_with fail
  refine (spec_InverseTurn a b _).mono ?_
  rintro e w2 ⟨rfl, b2⟩
  have B2 := Lib.hid b2
  obtain ⟨hc2, hf2⟩ := bcell b2
  have hz2 := b2.size
  try simp only [World.size_alloc] at hz2 hc2 hf2
  have y2a : w.heap.size < w2.heap.size := by omega
  clear b2
  go_wp2_with fail
  refine (toTurn_any a b _).mono ?_
  rintro e w3 ⟨rfl, b3⟩
  have B3 := Lib.hid b3
  obtain ⟨hc3, hf3⟩ := bcell b3
  have hz3 := b3.size
  try simp only [World.size_alloc] at hz3 hc3 hf3
  have y3a : w.heap.size < w3.heap.size := by omega
  have y3b : w2.heap.size < w3.heap.size := by omega
  clear b3
  go_wp2_with fail
  refine (impl_InverseTurn a b _).mono ?_
  rintro e w4 ⟨rfl, b4⟩
  have B4 := Lib.hid b4
  obtain ⟨hc4, hf4⟩ := bcell b4
  have hz4 := b4.size
  try simp only [World.size_alloc] at hz4 hc4 hf4
  have y4a : w.heap.size < w4.heap.size := by omega
  have y4b : w2.heap.size < w4.heap.size := by omega
  clear b4
  go_wp2_with fail
  refine (eqTurn_refl _ _ _).mono ?_
  rintro e w5 ⟨rfl, b5⟩
  have B5 := Lib.hid b5
  obtain ⟨hc5, hf5⟩ := bcell b5
  have hz5 := b5.size
  try simp only [World.size_alloc] at hz5 hc5 hf5
  have y5a : w.heap.size < w5.heap.size := by omega
  clear b5
  go_wp2_with fail
  go_ret
  exact ⟨rfl, by
    repeat (first | exact Below.refl _ _ | apply Below.setCell | apply Below.alloc | refine Below.trans ?_ (B5.out.mono ?_) | refine Below.trans ?_ (B4.out.mono ?_) | refine Below.trans ?_ (B3.out.mono ?_) | refine Below.trans ?_ (B2.out.mono ?_) | refine Below.trans ?_ (B1.out.mono ?_))
    all_goals first | omega | (simp; done) | (simp; omega)⟩
end Go.Proofs.Ytoejigbeegkfoaa.fnExactInverseTurn
