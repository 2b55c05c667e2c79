/- The law FnClamped, walked: it returns true. -/
import Derived.Test.YtoejigbeegkfoaaRows
import Derived.Test.YtoejigbeegkfoaaDrawNum
namespace Go.Proofs.Ytoejigbeegkfoaa.fnClamped
open Go.RowKit draw base
set_option linter.unusedVariables false

/-- the greatest of the least and the least of the number and the most -/
def clampI (n a b : Int) : Int := if b < a then a else if n < a then a else if b < n then b else n

theorem clamp (n a b : Int) (w : World) : Calls Try.prog 17 #[.int .i64 n, .int .i64 a, .int .i64 b] w fun e w' => e = .returned (.int .i64 (clampI n a b)) ∧ w = w' := by
  by_cases h1 : b < a
  · have e : clampI n a b = a := by simp [clampI, h1]
    rw [e]; clear e
    go_enter Try.func17, Try.ntmps17
    go_wp2
    go_ret
    exact ⟨rfl, rfl⟩
  · by_cases h2 : n < a
    · have e : clampI n a b = a := by simp [clampI, h1, h2]
      rw [e]; clear e
      go_enter Try.func17, Try.ntmps17
      go_wp2
      go_ret
      exact ⟨rfl, rfl⟩
    · by_cases h3 : b < n
      · have e : clampI n a b = b := by simp [clampI, h1, h2, h3]
        rw [e]; clear e
        go_enter Try.func17, Try.ntmps17
        go_wp2
        go_ret
        exact ⟨rfl, rfl⟩
      · have e : clampI n a b = n := by simp [clampI, h1, h2, h3]
        rw [e]; clear e
        go_enter Try.func17, Try.ntmps17
        go_wp2
        go_ret
        exact ⟨rfl, rfl⟩

theorem big (A : Option Addr) (n c : Nat) (w : World) : Calls Try.prog 15 #[.slice A n c] w fun e w' => e = .returned (.bool (decide ((n : Int) > 1048576))) ∧ w = w' := by
  go_enter Try.func15, Try.ntmps15
  go_wp2
  go_ret
  exact ⟨by simp, rfl⟩

theorem c735 : clampI 7 3 5 = 5 := by decide

/-- what is asked of a clamped number -/
theorem clamp_facts (x a b : Int) (h : ¬ b < a) : a ≤ clampI x a b ∧ clampI x a b ≤ b ∧ clampI (clampI x a b) a b = clampI x a b ∧ (a ≤ x → x ≤ b → clampI x a b = x) := by
  unfold clampI
  split
  · omega
  · split
    · refine ⟨by omega, by omega, ?_, by omega⟩
      (repeat' split) <;> omega
    · split
      · refine ⟨by omega, by omega, ?_, by omega⟩
        (repeat' split) <;> omega
      · exact ⟨by omega, by omega, rfl, fun _ _ => rfl⟩

set_option maxHeartbeats 1000000 in
theorem walk (A : Option Addr) (n c : Nat) (w : World) (hb : Bytes w A n c) :
    Calls Try.prog 5 #[.slice A n c] w fun e w' => e = .returned (.bool true) ∧ Below w.heap.size w w' := by
  have HB := Lib.hid hb
  clear hb
  by_cases hbig : (n : Int) > 1048576
  · have hd : decide ((n : Int) > 1048576) = true := by simpa using hbig
    go_enter Try.func5, Try.ntmps5
    go_wp2_with fail
    refine (big A n c _).mono ?_
    rintro e w1 ⟨rfl, rfl⟩
    go_wp2_with fail
    go_ret
    exact ⟨rfl, Below.refl _ _⟩
  · have hd : decide ((n : Int) > 1048576) = false := by simpa using hbig
    go_enter Try.func5, Try.ntmps5
    go_wp2_with fail
    refine (big A n c _).mono ?_
    rintro e w1 ⟨rfl, rfl⟩
    go_wp2_with fail
    refine (drawClamp w A n c HB.out).mono ?_
    rintro e w1 ⟨x, a, b, rfl, b1⟩
    have B1 := Lib.hid b1
    clear b1 hbig hd
    go_wp2_with fail
    refine (clamp x a b _).mono ?_
    rintro e w2 ⟨rfl, rfl⟩
    by_cases hba : b < a
    · have e1 : clampI x a b = a := by simp [clampI, hba]
      rw [e1]
      clear e1
      go_wp2_with fail
      refine (clamp 7 3 5 _).mono ?_
      rintro e w2 ⟨rfl, rfl⟩
      rw [c735]
      go_wp2_with fail
      go_ret
      exact ⟨rfl, B1.out⟩
    · obtain ⟨f1, f2, f3, f4⟩ := clamp_facts x a b hba
      have F3 := Lib.hid f3
      have F4 := Lib.hid f4
      clear f3 f4
      by_cases h1 : x < a
      · generalize hy : clampI x a b = y at *
        clear hy
        go_wp2_with fail
        refine (clamp y a b _).mono ?_
        rintro e w2 ⟨rfl, rfl⟩
        rw [F3.out]
        go_wp2_with fail
        refine (clamp 7 3 5 _).mono ?_
        rintro e w2 ⟨rfl, rfl⟩
        rw [c735]
        go_wp2_with fail
        go_ret
        exact ⟨rfl, B1.out⟩
      · by_cases h2 : b < x
        · generalize hy : clampI x a b = y at *
          clear hy
          go_wp2_with fail
          refine (clamp y a b _).mono ?_
          rintro e w2 ⟨rfl, rfl⟩
          rw [F3.out]
          go_wp2_with fail
          refine (clamp 7 3 5 _).mono ?_
          rintro e w2 ⟨rfl, rfl⟩
          rw [c735]
          go_wp2_with fail
          go_ret
          exact ⟨rfl, B1.out⟩
        · have e1 : clampI x a b = x := F4.out (by omega) (by omega)
          have E1 := Lib.hid e1
          rw [e1] at f1 f2 ⊢
          clear e1
          go_wp2_with fail
          refine (clamp x a b _).mono ?_
          rintro e w2 ⟨rfl, rfl⟩
          rw [E1.out]
          go_wp2_with fail
          refine (clamp 7 3 5 _).mono ?_
          rintro e w2 ⟨rfl, rfl⟩
          rw [c735]
          go_wp2_with fail
          go_ret
          exact ⟨rfl, B1.out⟩
end Go.Proofs.Ytoejigbeegkfoaa.fnClamped
