/- Contracts of InverseTurn and ComposeTurns in both packages, and of eqTurn. -/
import Derived.Test.YtoejigbeegkfoaaBase
import Derived.Test.YtoejigbeegkfoaaTurnA
namespace Go.Proofs.Ytoejigbeegkfoaa.turnA
open Go.RowKit base
set_option linter.unusedVariables false

def invQ (a b : Int) : Int := if turnB a b = true then (4 - a) % 4 else 0
def invP (a b : Int) : Int := if turnB a b = true then -b else 0

theorem impl_InverseTurn (a b : Int) (w : World) : Calls Try.prog 11 #[.agg #[.int .i64 a, .int .i64 b]] w fun e w' => e = .returned (.tuple #[.agg #[.int .i64 (invQ a b), .int .i64 (invP a b)], .bool (turnB a b)]) ∧ Below w.heap.size w w' := by
  have b0 : Below w.heap.size w ((w.alloc (.cells #[.int .i64 a, .int .i64 b] 24)).alloc (.cells #[.int .i64 0, .int .i64 0] 24)) := ((Below.refl _ _).alloc (Nat.le_refl _) _).alloc (by simp) _
  have B0 := Lib.hid b0
  clear b0
  cases hB : turnB a b with
  | true =>
    have hb := hB
    simp only [turnB, decide_eq_true_eq] at hb
    obtain ⟨k1, k2, k3, k4⟩ := hb
    have e1 : invQ a b = (4 - a) % 4 := by simp [invQ, hB]
    have e2 : invP a b = -b := by simp [invP, hB]
    rw [e1, e2]; clear e1 e2
    go_enter Try.func11, Try.ntmps11
    go_wp2_with fail
    refine (impl_TurnOk a b _).mono ?_
    rintro e w1 ⟨rfl, b1⟩
    have B1 := Lib.hid b1
    obtain ⟨hc, hf⟩ := bcell b1
    have hz := b1.size
    simp only [World.size_alloc] at hz hc hf
    have hz1 : w.heap.size < w1.heap.size := by omega
    have hz2 : w.heap.size + 1 < w1.heap.size := by omega
    clear b1
    go_wp2_with fail
    exact bodyPost_ret (v := .tuple #[.agg #[.int .i64 ((4 - a) % 4), .int .i64 (-b)], .bool true]) (by simp [results, Try.results11, go_sem, hc]) rfl ⟨rfl, (((B0.out.trans (B1.out.mono (by simp; omega)))).setCell (by simp) _).setCell (by simp) _⟩
  | false =>
    have e1 : invQ a b = 0 := by simp [invQ, hB]
    have e2 : invP a b = 0 := by simp [invP, hB]
    rw [e1, e2]; clear e1 e2
    go_enter Try.func11, Try.ntmps11
    go_wp2_with fail
    refine (impl_TurnOk a b _).mono ?_
    rintro e w1 ⟨rfl, b1⟩
    have B1 := Lib.hid b1
    obtain ⟨hc, hf⟩ := bcell b1
    have hz := b1.size
    simp only [World.size_alloc] at hz hc hf
    have hz1 : w.heap.size < w1.heap.size := by omega
    have hz2 : w.heap.size + 1 < w1.heap.size := by omega
    clear b1
    go_wp2_with fail
    exact bodyPost_ret (v := .tuple #[.agg #[.int .i64 0, .int .i64 0], .bool false]) (by simp [results, Try.results11, go_sem, hc]) rfl ⟨rfl, (((B0.out.trans (B1.out.mono (by simp; omega)))).setCell (by simp) _).setCell (by simp) _⟩

theorem spec_InverseTurn (a b : Int) (w : World) : Calls Try.prog 9 #[.agg #[.int .i64 a, .int .i64 b]] w fun e w' => e = .returned (.tuple #[.agg #[.int .i64 (invQ a b), .int .i64 (invP a b)], .bool (turnB a b)]) ∧ Below w.heap.size w w' := by
  have b0 : Below w.heap.size w ((w.alloc (.cells #[.int .i64 a, .int .i64 b] 24)).alloc (.cells #[.int .i64 0, .int .i64 0] 24)) := ((Below.refl _ _).alloc (Nat.le_refl _) _).alloc (by simp) _
  have B0 := Lib.hid b0
  clear b0
  cases hB : turnB a b with
  | true =>
    have hb := hB
    simp only [turnB, decide_eq_true_eq] at hb
    obtain ⟨k1, k2, k3, k4⟩ := hb
    have e1 : invQ a b = (4 - a) % 4 := by simp [invQ, hB]
    have e2 : invP a b = -b := by simp [invP, hB]
    rw [e1, e2]; clear e1 e2
    go_enter Try.func9, Try.ntmps9
    go_wp2_with fail
    refine (spec_TurnOk a b _).mono ?_
    rintro e w1 ⟨rfl, b1⟩
    have B1 := Lib.hid b1
    obtain ⟨hc, hf⟩ := bcell b1
    have hz := b1.size
    simp only [World.size_alloc] at hz hc hf
    have hz1 : w.heap.size < w1.heap.size := by omega
    have hz2 : w.heap.size + 1 < w1.heap.size := by omega
    clear b1
    go_wp2_with fail
    exact bodyPost_ret (v := .tuple #[.agg #[.int .i64 ((4 - a) % 4), .int .i64 (-b)], .bool true]) (by simp [results, Try.results9, go_sem, hc]) rfl ⟨rfl, (((B0.out.trans (B1.out.mono (by simp; omega)))).setCell (by simp) _).setCell (by simp) _⟩
  | false =>
    have e1 : invQ a b = 0 := by simp [invQ, hB]
    have e2 : invP a b = 0 := by simp [invP, hB]
    rw [e1, e2]; clear e1 e2
    go_enter Try.func9, Try.ntmps9
    go_wp2_with fail
    refine (spec_TurnOk a b _).mono ?_
    rintro e w1 ⟨rfl, b1⟩
    have B1 := Lib.hid b1
    obtain ⟨hc, hf⟩ := bcell b1
    have hz := b1.size
    simp only [World.size_alloc] at hz hc hf
    have hz1 : w.heap.size < w1.heap.size := by omega
    have hz2 : w.heap.size + 1 < w1.heap.size := by omega
    clear b1
    go_wp2_with fail
    exact bodyPost_ret (v := .tuple #[.agg #[.int .i64 0, .int .i64 0], .bool false]) (by simp [results, Try.results9, go_sem, hc]) rfl ⟨rfl, (((B0.out.trans (B1.out.mono (by simp; omega)))).setCell (by simp) _).setCell (by simp) _⟩

def compOk (a b c d : Int) : Bool := turnB a b && turnB c d && turnB ((a + c) % 4) (b + d)
def compQ (a b c d : Int) : Int := if compOk a b c d = true then (a + c) % 4 else 0
def compP (a b c d : Int) : Int := if compOk a b c d = true then b + d else 0
theorem turn_bounds {a b : Int} (h : turnB a b = true) : 0 ≤ a ∧ a ≤ 3 ∧ -60 ≤ b ∧ b ≤ 60 := by simpa only [turnB, decide_eq_true_eq] using h

theorem impl_ComposeTurns (a b c d : Int) (w : World) : Calls Try.prog 14 #[.agg #[.int .i64 a, .int .i64 b], .agg #[.int .i64 c, .int .i64 d]] w fun e w' => e = .returned (.tuple #[.agg #[.int .i64 (compQ a b c d), .int .i64 (compP a b c d)], .bool (compOk a b c d)]) ∧ Below w.heap.size w w' := by
  cases hB : turnB a b with
  | false =>
    have e0 : compOk a b c d = false := by simp [compOk, *]
    have e1 : compQ a b c d = 0 := by simp [compQ, e0]
    have e2 : compP a b c d = 0 := by simp [compP, e0]
    rw [e1, e2, e0]; clear e0 e1 e2
    go_enter Try.func14, Try.ntmps14
    go_wp2_with fail
    refine (impl_TurnOk a b _).mono ?_
    rintro e w1 ⟨rfl, b1⟩
    have B1 := Lib.hid b1
    obtain ⟨hc1, hf1⟩ := bcell b1
    have hz1 := b1.size
    simp only [World.size_alloc] at hz1 hc1 hf1
    have y1 : w.heap.size < w1.heap.size := by omega
    have y1' : w.heap.size + 1 < w1.heap.size := by omega
    have y1'' : w.heap.size + 1 + 1 < w1.heap.size := by omega
    have y1''' : w.heap.size + 1 + 1 + 1 < w1.heap.size := by omega
    clear b1
    go_wp2_with fail
    exact bodyPost_ret (v := .tuple #[.agg #[.int .i64 0, .int .i64 0], .bool false]) (by simp [results, Try.results14, go_sem, *]) rfl ⟨rfl, by
      repeat (first | exact Below.refl _ _ | apply Below.setCell | apply Below.alloc | refine Below.trans ?_ (B1.out.mono ?_))
      all_goals first | omega | (simp; done) | (simp; omega)⟩
  | true =>
   obtain ⟨k1, k2, k3, k4⟩ := turn_bounds hB
   cases hD : turnB c d with
   | false =>
    have e0 : compOk a b c d = false := by simp [compOk, *]
    have e1 : compQ a b c d = 0 := by simp [compQ, e0]
    have e2 : compP a b c d = 0 := by simp [compP, e0]
    rw [e1, e2, e0]; clear e0 e1 e2
    go_enter Try.func14, Try.ntmps14
    go_wp2_with fail
    refine (impl_TurnOk a b _).mono ?_
    rintro e w1 ⟨rfl, b1⟩
    have B1 := Lib.hid b1
    obtain ⟨hc1, hf1⟩ := bcell b1
    have hz1 := b1.size
    simp only [World.size_alloc] at hz1 hc1 hf1
    have y1 : w.heap.size < w1.heap.size := by omega
    have y1' : w.heap.size + 1 < w1.heap.size := by omega
    have y1'' : w.heap.size + 1 + 1 < w1.heap.size := by omega
    have y1''' : w.heap.size + 1 + 1 + 1 < w1.heap.size := by omega
    clear b1
    go_wp2_with fail
    refine (impl_TurnOk c d _).mono ?_
    rintro e w2 ⟨rfl, b2⟩
    have B2 := Lib.hid b2
    obtain ⟨hc2, hf2⟩ := bcell b2
    have hz2 := b2.size
    try simp only [World.size_alloc] at hz2 hc2 hf2
    have y2 : w.heap.size < w2.heap.size := by omega
    have y2' : w.heap.size + 1 < w2.heap.size := by omega
    have y2'' : w.heap.size + 1 + 1 < w2.heap.size := by omega
    have y2''' : w.heap.size + 1 + 1 + 1 < w2.heap.size := by omega
    clear b2
    go_wp2_with fail
    exact bodyPost_ret (v := .tuple #[.agg #[.int .i64 0, .int .i64 0], .bool false]) (by simp [results, Try.results14, go_sem, *]) rfl ⟨rfl, by
      repeat (first | exact Below.refl _ _ | apply Below.setCell | apply Below.alloc | refine Below.trans ?_ (B2.out.mono ?_) | refine Below.trans ?_ (B1.out.mono ?_))
      all_goals first | omega | (simp; done) | (simp; omega)⟩
   | true =>
    obtain ⟨m1, m2, m3, m4⟩ := turn_bounds hD
    cases hT : turnB ((a + c) % 4) (b + d) with
    | true =>
    have e0 : compOk a b c d = true := by simp [compOk, *]
    have e1 : compQ a b c d = (a + c) % 4 := by simp [compQ, e0]
    have e2 : compP a b c d = b + d := by simp [compP, e0]
    rw [e1, e2, e0]; clear e0 e1 e2
    go_enter Try.func14, Try.ntmps14
    go_wp2_with fail
    refine (impl_TurnOk a b _).mono ?_
    rintro e w1 ⟨rfl, b1⟩
    have B1 := Lib.hid b1
    obtain ⟨hc1, hf1⟩ := bcell b1
    have hz1 := b1.size
    simp only [World.size_alloc] at hz1 hc1 hf1
    have y1 : w.heap.size < w1.heap.size := by omega
    have y1' : w.heap.size + 1 < w1.heap.size := by omega
    have y1'' : w.heap.size + 1 + 1 < w1.heap.size := by omega
    have y1''' : w.heap.size + 1 + 1 + 1 < w1.heap.size := by omega
    clear b1
    go_wp2_with fail
    refine (impl_TurnOk c d _).mono ?_
    rintro e w2 ⟨rfl, b2⟩
    have B2 := Lib.hid b2
    obtain ⟨hc2, hf2⟩ := bcell b2
    have hz2 := b2.size
    try simp only [World.size_alloc] at hz2 hc2 hf2
    have y2 : w.heap.size < w2.heap.size := by omega
    have y2' : w.heap.size + 1 < w2.heap.size := by omega
    have y2'' : w.heap.size + 1 + 1 < w2.heap.size := by omega
    have y2''' : w.heap.size + 1 + 1 + 1 < w2.heap.size := by omega
    clear b2
    go_wp2_with fail
    refine (impl_TurnOk ((a + c) % 4) (b + d) _).mono ?_
    rintro e w3 ⟨rfl, b3⟩
    have B3 := Lib.hid b3
    obtain ⟨hc3, hf3⟩ := bcell b3
    have hz3 := b3.size
    try simp only [World.size_alloc] at hz3 hc3 hf3
    have y3 : w.heap.size < w3.heap.size := by omega
    have y3' : w.heap.size + 1 < w3.heap.size := by omega
    have y3'' : w.heap.size + 1 + 1 < w3.heap.size := by omega
    have y3''' : w.heap.size + 1 + 1 + 1 < w3.heap.size := by omega
    clear b3
    go_wp2_with fail
    exact bodyPost_ret (v := .tuple #[.agg #[.int .i64 ((a + c) % 4), .int .i64 (b + d)], .bool true]) (by simp [results, Try.results14, go_sem, *]) rfl ⟨rfl, by
      repeat (first | exact Below.refl _ _ | apply Below.setCell | apply Below.alloc | refine Below.trans ?_ (B3.out.mono ?_) | refine Below.trans ?_ (B2.out.mono ?_) | refine Below.trans ?_ (B1.out.mono ?_))
      all_goals first | omega | (simp; done) | (simp; omega)⟩
    | false =>
    have e0 : compOk a b c d = false := by simp [compOk, *]
    have e1 : compQ a b c d = 0 := by simp [compQ, e0]
    have e2 : compP a b c d = 0 := by simp [compP, e0]
    rw [e1, e2, e0]; clear e0 e1 e2
    go_enter Try.func14, Try.ntmps14
    go_wp2_with fail
    refine (impl_TurnOk a b _).mono ?_
    rintro e w1 ⟨rfl, b1⟩
    have B1 := Lib.hid b1
    obtain ⟨hc1, hf1⟩ := bcell b1
    have hz1 := b1.size
    simp only [World.size_alloc] at hz1 hc1 hf1
    have y1 : w.heap.size < w1.heap.size := by omega
    have y1' : w.heap.size + 1 < w1.heap.size := by omega
    have y1'' : w.heap.size + 1 + 1 < w1.heap.size := by omega
    have y1''' : w.heap.size + 1 + 1 + 1 < w1.heap.size := by omega
    clear b1
    go_wp2_with fail
    refine (impl_TurnOk c d _).mono ?_
    rintro e w2 ⟨rfl, b2⟩
    have B2 := Lib.hid b2
    obtain ⟨hc2, hf2⟩ := bcell b2
    have hz2 := b2.size
    try simp only [World.size_alloc] at hz2 hc2 hf2
    have y2 : w.heap.size < w2.heap.size := by omega
    have y2' : w.heap.size + 1 < w2.heap.size := by omega
    have y2'' : w.heap.size + 1 + 1 < w2.heap.size := by omega
    have y2''' : w.heap.size + 1 + 1 + 1 < w2.heap.size := by omega
    clear b2
    go_wp2_with fail
    refine (impl_TurnOk ((a + c) % 4) (b + d) _).mono ?_
    rintro e w3 ⟨rfl, b3⟩
    have B3 := Lib.hid b3
    obtain ⟨hc3, hf3⟩ := bcell b3
    have hz3 := b3.size
    try simp only [World.size_alloc] at hz3 hc3 hf3
    have y3 : w.heap.size < w3.heap.size := by omega
    have y3' : w.heap.size + 1 < w3.heap.size := by omega
    have y3'' : w.heap.size + 1 + 1 < w3.heap.size := by omega
    have y3''' : w.heap.size + 1 + 1 + 1 < w3.heap.size := by omega
    clear b3
    go_wp2_with fail
    exact bodyPost_ret (v := .tuple #[.agg #[.int .i64 0, .int .i64 0], .bool false]) (by simp [results, Try.results14, go_sem, *]) rfl ⟨rfl, by
      repeat (first | exact Below.refl _ _ | apply Below.setCell | apply Below.alloc | refine Below.trans ?_ (B3.out.mono ?_) | refine Below.trans ?_ (B2.out.mono ?_) | refine Below.trans ?_ (B1.out.mono ?_))
      all_goals first | omega | (simp; done) | (simp; omega)⟩

theorem spec_ComposeTurns (a b c d : Int) (w : World) : Calls Try.prog 13 #[.agg #[.int .i64 a, .int .i64 b], .agg #[.int .i64 c, .int .i64 d]] w fun e w' => e = .returned (.tuple #[.agg #[.int .i64 (compQ a b c d), .int .i64 (compP a b c d)], .bool (compOk a b c d)]) ∧ Below w.heap.size w w' := by
  cases hB : turnB a b with
  | false =>
    have e0 : compOk a b c d = false := by simp [compOk, *]
    have e1 : compQ a b c d = 0 := by simp [compQ, e0]
    have e2 : compP a b c d = 0 := by simp [compP, e0]
    rw [e1, e2, e0]; clear e0 e1 e2
    go_enter Try.func13, Try.ntmps13
    go_wp2_with fail
    refine (spec_TurnOk a b _).mono ?_
    rintro e w1 ⟨rfl, b1⟩
    have B1 := Lib.hid b1
    obtain ⟨hc1, hf1⟩ := bcell b1
    have hz1 := b1.size
    simp only [World.size_alloc] at hz1 hc1 hf1
    have y1 : w.heap.size < w1.heap.size := by omega
    have y1' : w.heap.size + 1 < w1.heap.size := by omega
    have y1'' : w.heap.size + 1 + 1 < w1.heap.size := by omega
    clear b1
    go_wp2_with fail
    exact bodyPost_ret (v := .tuple #[.agg #[.int .i64 0, .int .i64 0], .bool false]) (by simp [results, Try.results13, go_sem, *]) rfl ⟨rfl, by
      repeat (first | exact Below.refl _ _ | apply Below.setCell | apply Below.alloc | refine Below.trans ?_ (B1.out.mono ?_))
      all_goals first | omega | (simp; done) | (simp; omega)⟩
  | true =>
   obtain ⟨k1, k2, k3, k4⟩ := turn_bounds hB
   cases hD : turnB c d with
   | false =>
    have e0 : compOk a b c d = false := by simp [compOk, *]
    have e1 : compQ a b c d = 0 := by simp [compQ, e0]
    have e2 : compP a b c d = 0 := by simp [compP, e0]
    rw [e1, e2, e0]; clear e0 e1 e2
    go_enter Try.func13, Try.ntmps13
    go_wp2_with fail
    refine (spec_TurnOk a b _).mono ?_
    rintro e w1 ⟨rfl, b1⟩
    have B1 := Lib.hid b1
    obtain ⟨hc1, hf1⟩ := bcell b1
    have hz1 := b1.size
    simp only [World.size_alloc] at hz1 hc1 hf1
    have y1 : w.heap.size < w1.heap.size := by omega
    have y1' : w.heap.size + 1 < w1.heap.size := by omega
    have y1'' : w.heap.size + 1 + 1 < w1.heap.size := by omega
    clear b1
    go_wp2_with fail
    refine (spec_TurnOk c d _).mono ?_
    rintro e w2 ⟨rfl, b2⟩
    have B2 := Lib.hid b2
    obtain ⟨hc2, hf2⟩ := bcell b2
    have hz2 := b2.size
    try simp only [World.size_alloc] at hz2 hc2 hf2
    have y2 : w.heap.size < w2.heap.size := by omega
    have y2' : w.heap.size + 1 < w2.heap.size := by omega
    have y2'' : w.heap.size + 1 + 1 < w2.heap.size := by omega
    clear b2
    go_wp2_with fail
    exact bodyPost_ret (v := .tuple #[.agg #[.int .i64 0, .int .i64 0], .bool false]) (by simp [results, Try.results13, go_sem, *]) rfl ⟨rfl, by
      repeat (first | exact Below.refl _ _ | apply Below.setCell | apply Below.alloc | refine Below.trans ?_ (B2.out.mono ?_) | refine Below.trans ?_ (B1.out.mono ?_))
      all_goals first | omega | (simp; done) | (simp; omega)⟩
   | true =>
    obtain ⟨m1, m2, m3, m4⟩ := turn_bounds hD
    cases hT : turnB ((a + c) % 4) (b + d) with
    | true =>
    have e0 : compOk a b c d = true := by simp [compOk, *]
    have e1 : compQ a b c d = (a + c) % 4 := by simp [compQ, e0]
    have e2 : compP a b c d = b + d := by simp [compP, e0]
    rw [e1, e2, e0]; clear e0 e1 e2
    go_enter Try.func13, Try.ntmps13
    go_wp2_with fail
    refine (spec_TurnOk a b _).mono ?_
    rintro e w1 ⟨rfl, b1⟩
    have B1 := Lib.hid b1
    obtain ⟨hc1, hf1⟩ := bcell b1
    have hz1 := b1.size
    simp only [World.size_alloc] at hz1 hc1 hf1
    have y1 : w.heap.size < w1.heap.size := by omega
    have y1' : w.heap.size + 1 < w1.heap.size := by omega
    have y1'' : w.heap.size + 1 + 1 < w1.heap.size := by omega
    clear b1
    go_wp2_with fail
    refine (spec_TurnOk c d _).mono ?_
    rintro e w2 ⟨rfl, b2⟩
    have B2 := Lib.hid b2
    obtain ⟨hc2, hf2⟩ := bcell b2
    have hz2 := b2.size
    try simp only [World.size_alloc] at hz2 hc2 hf2
    have y2 : w.heap.size < w2.heap.size := by omega
    have y2' : w.heap.size + 1 < w2.heap.size := by omega
    have y2'' : w.heap.size + 1 + 1 < w2.heap.size := by omega
    clear b2
    go_wp2_with fail
    refine (spec_TurnOk ((a + c) % 4) (b + d) _).mono ?_
    rintro e w3 ⟨rfl, b3⟩
    have B3 := Lib.hid b3
    obtain ⟨hc3, hf3⟩ := bcell b3
    have hz3 := b3.size
    try simp only [World.size_alloc] at hz3 hc3 hf3
    have y3 : w.heap.size < w3.heap.size := by omega
    have y3' : w.heap.size + 1 < w3.heap.size := by omega
    have y3'' : w.heap.size + 1 + 1 < w3.heap.size := by omega
    clear b3
    go_wp2_with fail
    exact bodyPost_ret (v := .tuple #[.agg #[.int .i64 ((a + c) % 4), .int .i64 (b + d)], .bool true]) (by simp [results, Try.results13, go_sem, *]) rfl ⟨rfl, by
      repeat (first | exact Below.refl _ _ | apply Below.setCell | apply Below.alloc | refine Below.trans ?_ (B3.out.mono ?_) | refine Below.trans ?_ (B2.out.mono ?_) | refine Below.trans ?_ (B1.out.mono ?_))
      all_goals first | omega | (simp; done) | (simp; omega)⟩
    | false =>
    have e0 : compOk a b c d = false := by simp [compOk, *]
    have e1 : compQ a b c d = 0 := by simp [compQ, e0]
    have e2 : compP a b c d = 0 := by simp [compP, e0]
    rw [e1, e2, e0]; clear e0 e1 e2
    go_enter Try.func13, Try.ntmps13
    go_wp2_with fail
    refine (spec_TurnOk a b _).mono ?_
    rintro e w1 ⟨rfl, b1⟩
    have B1 := Lib.hid b1
    obtain ⟨hc1, hf1⟩ := bcell b1
    have hz1 := b1.size
    simp only [World.size_alloc] at hz1 hc1 hf1
    have y1 : w.heap.size < w1.heap.size := by omega
    have y1' : w.heap.size + 1 < w1.heap.size := by omega
    have y1'' : w.heap.size + 1 + 1 < w1.heap.size := by omega
    clear b1
    go_wp2_with fail
    refine (spec_TurnOk c d _).mono ?_
    rintro e w2 ⟨rfl, b2⟩
    have B2 := Lib.hid b2
    obtain ⟨hc2, hf2⟩ := bcell b2
    have hz2 := b2.size
    try simp only [World.size_alloc] at hz2 hc2 hf2
    have y2 : w.heap.size < w2.heap.size := by omega
    have y2' : w.heap.size + 1 < w2.heap.size := by omega
    have y2'' : w.heap.size + 1 + 1 < w2.heap.size := by omega
    clear b2
    go_wp2_with fail
    refine (spec_TurnOk ((a + c) % 4) (b + d) _).mono ?_
    rintro e w3 ⟨rfl, b3⟩
    have B3 := Lib.hid b3
    obtain ⟨hc3, hf3⟩ := bcell b3
    have hz3 := b3.size
    try simp only [World.size_alloc] at hz3 hc3 hf3
    have y3 : w.heap.size < w3.heap.size := by omega
    have y3' : w.heap.size + 1 < w3.heap.size := by omega
    have y3'' : w.heap.size + 1 + 1 < w3.heap.size := by omega
    clear b3
    go_wp2_with fail
    exact bodyPost_ret (v := .tuple #[.agg #[.int .i64 0, .int .i64 0], .bool false]) (by simp [results, Try.results13, go_sem, *]) rfl ⟨rfl, by
      repeat (first | exact Below.refl _ _ | apply Below.setCell | apply Below.alloc | refine Below.trans ?_ (B3.out.mono ?_) | refine Below.trans ?_ (B2.out.mono ?_) | refine Below.trans ?_ (B1.out.mono ?_))
      all_goals first | omega | (simp; done) | (simp; omega)⟩

theorem eqTurn_refl (a b : Int) (w : World) : Calls Try.prog 12 #[.agg #[.int .i64 a, .int .i64 b], .agg #[.int .i64 a, .int .i64 b]] w fun e w' => e = .returned (.bool true) ∧ Below w.heap.size w w' := by
  go_enter Try.func12, Try.ntmps12
  go_wp2
  go_ret
  exact ⟨rfl, ((Below.refl _ _).alloc (Nat.le_refl _) _).alloc (by simp) _⟩
end Go.Proofs.Ytoejigbeegkfoaa.turnA
