/- The contract of l01Fine: is a float64 finite. -/
import Derived.Test.YtpbklllmplimaaaDoorFlRes
namespace Go.Proofs.YtpbklllmplimaaaDoor.same
open Go.RowKit Fl Ieee
set_option linter.unusedVariables false

theorem sub_self (x : Nat) : (fin D x = true → ∃ z, floatBits .sub .f64 x x = some z ∧ rg D z = 0) ∧ (fin D x = false → floatBits .sub .f64 x x = none) := by
  constructor
  · intro h
    obtain ⟨r, e1, R1⟩ := sub_fin (f := D) (fine .f64) (fin_iff.1 h) (fin_iff.1 h)
    have hr0 : r = 0 := by
      refine R1.eq_of (by omega) ?_
      rw [mg_zero]; omega
    subst hr0
    exact ⟨_, e1, by rw [out_rg]; simp⟩
  · intro h
    cases hn : num D x with
    | false => exact arith_nan_l hn x
    | true =>
      have hi : rg D x = D.infRung := by
        have := num_iff.1 hn; unfold fin at h; simp only [decide_eq_false_iff_not] at h; omega
      have e1 := read_inf D (fine .f64).e hi
      show D.sub x x = none
      unfold Format.sub
      rw [e1]
      cases ng D x <;> rfl

/-- a bool and some draws -/
def BoolD (b : Bool) (w : World) (e : Ending) (w' : World) : Prop := e = .returned (.bool b) ∧ ∃ n, w' = w.drewN n

theorem l01Fine (x : Nat) (w : World) : Calls Tryd.prog 56 #[.float .f64 x] w (BoolD (fin D x) w) := by
  obtain ⟨z1, m1, h1, q1, l1⟩ := arith_res0 Tryd.prog (op := .sub) (by simp) .f64 x x 26 w
  obtain ⟨s1, s2⟩ := sub_self x
  cases hf : fin D x with
  | true =>
    obtain ⟨z, e, hz⟩ := s1 hf
    have k1 : z = z1 ∧ num D z1 = true := by
      rcases q1 with ⟨h, h'⟩ | ⟨h, _⟩
      · rw [e] at h; cases h; exact ⟨rfl, h'⟩
      · rw [e] at h; cases h
    obtain ⟨rfl, hn⟩ := k1
    have t1 := ordEq hn (num_zero D) (by rw [key_zero, key_eq_zero]; exact hz)
    clear q1 l1 s1 s2 hf e hz hn
    go_enter Tryd.func56, Tryd.ntmps56
    go_wp2
    go_ret
    exact ⟨rfl, m1, rfl⟩
  | false =>
    have e := s2 hf
    have hn : num D z1 = false := by
      rcases q1 with ⟨h, h'⟩ | ⟨_, h⟩
      · rw [e] at h; cases h
      · exact h
    have t1 := ordNanL hn 0
    clear q1 l1 s1 s2 hf e hn
    go_enter Tryd.func56, Tryd.ntmps56
    go_wp2
    go_ret
    exact ⟨rfl, m1, rfl⟩
end Go.Proofs.YtpbklllmplimaaaDoor.same
