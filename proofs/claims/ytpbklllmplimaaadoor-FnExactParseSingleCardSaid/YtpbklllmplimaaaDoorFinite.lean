/- Contracts of Abs, IsInf (of either sign) and finite: is a float64 finite. -/
import Derived.Test.YtpbklllmplimaaaDoorFlRun
import Derived.Test.YtpbklllmplimaaaDoorSignbit
import Derived.Test.YtpbklllmplimaaaDoorIsNaN
namespace Go.Proofs.YtpbklllmplimaaaDoor.same
open Go.RowKit Fl
set_option linter.unusedVariables false

theorem run_float64frombits (a : Int) (w : World) : (callFunc 43 #[.int .u64 a]).run Tryd.prog w = .ok (.value (.float .f64 a.toNat)) w := by
  rw [run_callFunc_extern (e := Extern.MathFloatBits.float64frombits) Tryd.func43 (by kernel_rfl) (by kernel_rfl) (by kernel_rfl) (by kernel_rfl)]
  rfl

theorem andNot_sign (a : Nat) (ha : a < 2 ^ 64) : Go.bits .andNot .u64 (a : Int) 9223372036854775808 = ((a % 9223372036854775808 : Nat) : Int) := by
  have h : Go.bits .andNot .u64 (a : Int) 9223372036854775808 = IntKind.u64.wrap ((BitVec.ofInt 64 (a : Int) &&& ~~~ BitVec.ofInt 64 9223372036854775808).toNat : Int) := rfl
  have e1 : (BitVec.ofInt 64 (a : Int)).toNat = a := by
    rw [BitVec.ofInt_natCast, BitVec.toNat_ofNat]; exact Nat.mod_eq_of_lt ha
  have e2 : (~~~ BitVec.ofInt 64 9223372036854775808).toNat = 2 ^ 63 - 1 := by decide
  rw [h, BitVec.toNat_and, e1, e2, Nat.and_two_pow_sub_one_eq_mod, IntKind.wrap_u64]
  have : a % 2 ^ 63 < 2 ^ 63 := Nat.mod_lt _ (Nat.two_pow_pos 63)
  omega

theorem abs (a : Nat) (ha : a < 2 ^ 64) (w : World) : Calls Tryd.prog 50 #[.float .f64 a] w fun e w' => e = .returned (.float .f64 (a % 9223372036854775808)) ∧ w = w' := by
  have hb := run_float64bits a
  have hf := run_float64frombits (Go.bits .andNot .u64 (a : Int) 9223372036854775808)
  have H := Lib.hid (andNot_sign a ha)
  go_enter Tryd.func50, Tryd.ntmps50
  go_wp2
  go_ret
  refine ⟨?_, rfl⟩
  show Ending.returned (.float .f64 (Go.bits .andNot .u64 (a : Int) 9223372036854775808).toNat) = _
  rw [H.out]; rfl

theorem max_num : num D 9218868437227405311 = true := by unfold num rg; rw [D_W, D_I]; decide
theorem max_key : key D 9218868437227405311 = 9218868437227405311 := by
  have h1 : ng D 9218868437227405311 = false := by unfold ng; rw [D_W]; decide
  have h2 : rg D 9218868437227405311 = 9218868437227405311 := by unfold rg; rw [D_W]
  unfold key; rw [h1, h2]; rfl
theorem rg_abs (a : Nat) : rg D (a % 9223372036854775808) = rg D a := by unfold rg; rw [D_W]; exact Nat.mod_mod _ _
theorem key_abs (a : Nat) : key D (a % 9223372036854775808) = (rg D a : Int) := by
  have h1 : ng D (a % 9223372036854775808) = false := by
    unfold ng; rw [D_W, Nat.div_eq_of_lt (Nat.mod_lt _ (by omega))]; rfl
  unfold key; rw [h1, rg_abs]; rfl

theorem isInf (a : Nat) (ha : a < 2 ^ 64) (w : World) : Calls Tryd.prog 31 #[.float .f64 a, .int .i64 0] w fun e w' => e = .returned (.bool (rg D a == D.infRung)) ∧ w = w' := by
  cases hn : num D a with
  | false =>
    have h1 := ordNanL (k := .f64) (x := a % 9223372036854775808) (by unfold num; rw [rg_abs]; exact hn) 9218868437227405311
    have e : (rg D a == D.infRung) = false := by
      unfold num at hn; simp only [decide_eq_false_iff_not] at hn; simp only [beq_eq_false_iff_ne]; omega
    rw [e]; clear e hn
    go_enter Tryd.func31, Tryd.ntmps31
    go_wp2_with (go_at_call 50; refine (abs _ ha _).mono ?_; rintro e w1 ⟨rfl, rfl⟩)
    go_ret
    exact ⟨rfl, rfl⟩
  | true =>
    have hn' : num D (a % 9223372036854775808) = true := by unfold num; rw [rg_abs]; exact hn
    by_cases hf : rg D a < D.infRung
    · have h1 : ∃ c, D.order (a % 9223372036854775808) 9218868437227405311 = some c ∧ (some c == some Ordering.gt) = false := by
        rw [ord hn' max_num, key_abs, max_key]
        rw [D_I] at hf
        rcases Nat.lt_or_ge (rg D a) 9218868437227405311 with h | h
        · exact ⟨.lt, by rw [cmp_lt (by omega)], rfl⟩
        · exact ⟨.eq, by rw [cmp_eq (by omega)], rfl⟩
      obtain ⟨c, h1, h2⟩ := h1
      have e : (rg D a == D.infRung) = false := by simp only [beq_eq_false_iff_ne]; omega
      rw [e]; clear e hn hn' hf
      go_enter Tryd.func31, Tryd.ntmps31
      go_wp2_with (go_at_call 50; refine (abs _ ha _).mono ?_; rintro e w1 ⟨rfl, rfl⟩)
      go_ret
      exact ⟨rfl, rfl⟩
    · have hr : rg D a = D.infRung := by have := num_iff.1 hn; omega
      have h1 : D.order (a % 9223372036854775808) 9218868437227405311 = some .gt := by
        rw [ord hn' max_num, key_abs, max_key, hr, D_I, cmp_gt (by omega)]
      have e : (rg D a == D.infRung) = true := by rw [hr]; simp
      rw [e]; clear e hn hn' hf hr
      go_enter Tryd.func31, Tryd.ntmps31
      go_wp2_with (go_at_call 50; refine (abs _ ha _).mono ?_; rintro e w1 ⟨rfl, rfl⟩)
      go_ret
      exact ⟨rfl, rfl⟩

theorem fin_eq (a : Nat) : fin D a = (num D a && !(rg D a == D.infRung)) := by
  unfold fin num
  by_cases h : rg D a < D.infRung
  · have h1 : rg D a ≤ D.infRung := by omega
    have h2 : rg D a ≠ D.infRung := by omega
    simp [h, h1, h2]
  · by_cases h1 : rg D a ≤ D.infRung
    · have h2 : rg D a = D.infRung := by omega
      simp [h2]
    · simp [h, h1]

theorem finite (a : Nat) (ha : a < 2 ^ 64) (w : World) : Calls Tryd.prog 61 #[.float .f64 a] w fun e w' => e = .returned (.bool (fin D a)) ∧ w = w' := by
  rw [fin_eq]
  cases hn : num D a with
  | false =>
    go_enter Tryd.func61, Tryd.ntmps61
    go_wp2_with (go_at_call 69; refine (isNaN _ _).mono ?_; rintro e w1 ⟨rfl, rfl⟩)
    go_ret
    exact ⟨rfl, rfl⟩
  | true =>
    go_enter Tryd.func61, Tryd.ntmps61
    go_wp2_with (first | (go_at_call 69; refine (isNaN _ _).mono ?_; rintro e w1 ⟨rfl, rfl⟩) | (go_at_call 31; refine (isInf _ ha _).mono ?_; rintro e w1 ⟨rfl, rfl⟩))
    go_ret
    exact ⟨by simp, rfl⟩
end Go.Proofs.YtpbklllmplimaaaDoor.same
