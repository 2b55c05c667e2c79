/- Contracts of l01Same, same and Signbit, IsNaN: two float64 words are the same, if they are one word or both NaN. -/
import Derived.Test.YtcbamaocccmbgaaFl
import Derived.Test.YtcbamaocccmbgaaBase
import Derived.Laws.Externs
namespace Go.Proofs.Ytcbamaocccmbgaa.same
open Go.RowKit Fl
set_option linter.unusedVariables false

theorem run_float64bits (a : Nat) (w : World) : (callFunc 26 #[.float .f64 a]).run Try.prog w = .ok (.value (.int .u64 a)) w := by
  rw [run_callFunc_extern (e := Extern.MathFloatBits.float64bits) Try.func26 (by kernel_rfl) (by kernel_rfl) (by kernel_rfl) (by kernel_rfl)]
  rfl

theorem signbit (a : Nat) (ha : a < 2 ^ 64) (w : World) : Calls Try.prog 23 #[.float .f64 a] w fun e w' => e = .returned (.bool (ng D a)) ∧ w = w' := by
  have hb := run_float64bits a
  have H : Hid (ng D a = decide (wrap64 (a : Int) < 0)) := by
    show ng D a = _
    have e : ng D a = decide (9223372036854775808 ≤ a) := by
      unfold ng; rw [D_W]
      by_cases h : 9223372036854775808 ≤ a
      · have : a / 9223372036854775808 = 1 := by omega
        simp [h, this]
      · have : a / 9223372036854775808 = 0 := by omega
        simp [h, this]
    rw [e]
    congr 1
    apply propext
    unfold wrap64
    omega
  go_enter Try.func23, Try.ntmps23
  go_wp2
  go_ret
  refine ⟨?_, rfl⟩
  rw [H.out]
  rfl

theorem isNaN (a : Nat) (w : World) : Calls Try.prog 27 #[.float .f64 a] w fun e w' => e = .returned (.bool (!num D a)) ∧ w = w' := by
  cases h : num D a with
  | true =>
    have h1 := ordSelf h
    clear h
    go_enter Try.func27, Try.ntmps27
    go_wp2
    go_ret
    exact ⟨by simp, rfl⟩
  | false =>
    have h1 := ordNanL h a
    clear h
    go_enter Try.func27, Try.ntmps27
    go_wp2
    go_ret
    exact ⟨by simp, rfl⟩

theorem smB_num {a b : Nat} (ha : num D a = true) (hb : num D b = true) : smB a b = (a == b) := by simp [smB, ha, hb]
theorem smB_l {a b : Nat} (ha : num D a = false) : smB a b = !num D b := by simp [smB, ha]
theorem smB_r {a b : Nat} (hb : num D b = false) : smB a b = !num D a := by simp [smB, hb]

/-- equal keys: one word where the signs are one -/
theorem same_words {a b : Nat} (wa : a < 2 ^ 64) (wb : b < 2 ^ 64) (h : key D a = key D b) : (a == b) = (ng D a == ng D b) := by
  by_cases h0 : rg D a = 0
  · have h0' : rg D b = 0 := by
      rw [← key_eq_zero] at h0 ⊢; omega
    by_cases hs : ng D a = ng D b
    · have : a = b := word_inj D wa wb hs (by omega)
      subst this; simp
    · have : a ≠ b := by rintro rfl; exact hs rfl
      rw [beq_eq_false_iff_ne.2 this, beq_eq_false_iff_ne.2 hs]
  · have : a = b := word_of_key (f := D) wa wb h h0
    subst this; simp
theorem other_words {a b : Nat} (h : key D a ≠ key D b) : (a == b) = false := by
  simp only [beq_eq_false_iff_ne]; rintro rfl; exact h rfl

theorem one_fin : fin D 4607182418800017408 = true := by unfold fin rg; rw [D_W, D_I]; decide
theorem one_rg : rg D 4607182418800017408 ≠ 0 := by unfold rg; rw [D_W]; decide
theorem one_ng : ng D 4607182418800017408 = false := by unfold ng; rw [D_W]; decide
theorem inf_key_eq (s t : Bool) : (D.order (inf D s) (inf D t) == some .eq) = (s == t) := by
  have hI : 0 < D.infRung := by rw [D_I]; omega
  rw [ord (num_inf _ _) (num_inf _ _), key_inf, key_inf]
  generalize D.infRung = n at hI
  cases s <;> cases t <;> simp only [sg, Bool.false_eq_true, if_false, if_true]
  · rw [cmp_eq rfl]; rfl
  · rw [cmp_gt (by omega)]; rfl
  · rw [cmp_lt (by omega)]; rfl
  · rw [cmp_eq rfl]; rfl
theorem run_inv {P : Program} {a : Nat} (h0 : rg D a = 0) (t : TypeId) (w : World) : (binOp .quo t (.float .f64 4607182418800017408) (.float .f64 a)).run P w = .ok (.float .f64 (inf D (ng D a))) w := by
  have := div_zero (k := .f64) one_fin one_rg h0
  rw [one_ng, Bool.false_xor] at this
  exact run_float_arith w .quo t .f64 _ _ _ this

theorem l01Same (a b : Nat) (wa : a < 2 ^ 64) (wb : b < 2 ^ 64) (w : World) : Calls Try.prog 24 #[.float .f64 a, .float .f64 b] w fun e w' => e = .returned (.bool (smB a b)) ∧ w = w' := by
  cases ha : num D a with
  | false =>
    rw [smB_l ha]
    have h1 := ordNanL ha
    have h2 := ordNanR ha
    cases hb : num D b with
    | false =>
      have h3 := ordNanL hb b
      clear ha hb wa wb
      go_enter Try.func24, Try.ntmps24
      go_wp2
      go_ret
      exact ⟨by simp, rfl⟩
    | true =>
      have h3 := ordSelf hb
      clear ha hb wa wb
      go_enter Try.func24, Try.ntmps24
      go_wp2
      go_ret
      exact ⟨by simp, rfl⟩
  | true =>
    have h1 := ordSelf ha
    cases hb : num D b with
    | false =>
      rw [smB_r hb, ha]
      have h3 := ordNanL hb
      have h4 := ordNanR hb
      clear ha hb wa wb
      go_enter Try.func24, Try.ntmps24
      go_wp2
      go_ret
      exact ⟨by simp, rfl⟩
    | true =>
      rw [smB_num ha hb]
      have h3 := ordSelf hb
      by_cases hk : key D a = key D b
      · have h4 := ordEq ha hb hk
        rw [same_words wa wb hk]
        by_cases h0 : rg D a = 0
        · have h0' : rg D b = 0 := by
            rw [← key_eq_zero] at h0 ⊢; omega
          have h5 := ordEq ha (num_zero D) (by rw [key_zero, key_eq_zero]; exact h0)
          have r1 := run_inv (P := Try.prog) h0
          have r2 := run_inv (P := Try.prog) h0'
          have h6 := inf_key_eq (ng D a) (ng D b)
          clear ha hb wa wb hk h0 h0'
          go_enter Try.func24, Try.ntmps24
          go_wp2
          go_ret
          exact ⟨by simp, rfl⟩
        · have hs : (ng D a == ng D b) = true := by
            rw [← same_words wa wb hk, word_of_key (f := D) wa wb hk h0]; simp
          rw [hs]
          have h5 : ∃ c, c ≠ Ordering.eq ∧ D.order a 0 = some c := by
            rw [ord ha (num_zero D), key_zero]
            have : key D a ≠ 0 := by rw [Ne, key_eq_zero]; exact h0
            rcases Int.lt_or_gt_of_ne this with h | h
            · exact ⟨.lt, by decide, by rw [cmp_lt h]⟩
            · exact ⟨.gt, by decide, by rw [cmp_gt h]⟩
          obtain ⟨c, hc, h5⟩ := h5
          clear ha hb wa wb hk h0 hs
          cases c <;> first | exact absurd rfl hc | skip
          all_goals
            clear hc
            go_enter Try.func24, Try.ntmps24
            go_wp2
            go_ret
            exact ⟨rfl, rfl⟩
      · rw [other_words hk]
        rcases Int.lt_or_gt_of_ne hk with h | h
        · have h4 := ordLt ha hb h
          clear ha hb wa wb hk h
          go_enter Try.func24, Try.ntmps24
          go_wp2
          go_ret
          exact ⟨by simp, rfl⟩
        · have h4 := ordGt ha hb h
          clear ha hb wa wb hk h
          go_enter Try.func24, Try.ntmps24
          go_wp2
          go_ret
          exact ⟨by simp, rfl⟩

theorem impl_same (a b : Nat) (wa : a < 2 ^ 64) (wb : b < 2 ^ 64) (w : World) : Calls Try.prog 25 #[.float .f64 a, .float .f64 b] w fun e w' => e = .returned (.bool (smB a b)) ∧ w = w' := by
  cases ha : num D a with
  | false =>
    rw [smB_l ha]
    have h1 := ordNanL ha
    have h2 := ordNanR ha
    cases hb : num D b with
    | false =>
      have h3 := ordNanL hb b
      go_enter Try.func25, Try.ntmps25
      go_wp2_with (first | (go_at_call 23; refine (signbit _ (by assumption) _).mono ?_; rintro e w1 ⟨rfl, rfl⟩) | (go_at_call 27; refine (isNaN _ _).mono ?_; rintro e w1 ⟨rfl, rfl⟩))
      go_ret
      exact ⟨by simp, rfl⟩
    | true =>
      have h3 := ordSelf hb
      go_enter Try.func25, Try.ntmps25
      go_wp2_with (first | (go_at_call 23; refine (signbit _ (by assumption) _).mono ?_; rintro e w1 ⟨rfl, rfl⟩) | (go_at_call 27; refine (isNaN _ _).mono ?_; rintro e w1 ⟨rfl, rfl⟩))
      go_ret
      exact ⟨by simp, rfl⟩
  | true =>
    have h1 := ordSelf ha
    cases hb : num D b with
    | false =>
      rw [smB_r hb, ha]
      have h3 := ordNanL hb
      have h4 := ordNanR hb
      go_enter Try.func25, Try.ntmps25
      go_wp2_with (first | (go_at_call 23; refine (signbit _ (by assumption) _).mono ?_; rintro e w1 ⟨rfl, rfl⟩) | (go_at_call 27; refine (isNaN _ _).mono ?_; rintro e w1 ⟨rfl, rfl⟩))
      go_ret
      exact ⟨by simp, rfl⟩
    | true =>
      rw [smB_num ha hb]
      have h3 := ordSelf hb
      by_cases hk : key D a = key D b
      · have h4 := ordEq ha hb hk
        rw [same_words wa wb hk]
        have na := ha
        have nb := hb
        cases hs : (ng D a == ng D b) with
        | true =>
          clear hk
          go_enter Try.func25, Try.ntmps25
          go_wp2_with (first | (go_at_call 23; refine (signbit _ (by assumption) _).mono ?_; rintro e w1 ⟨rfl, rfl⟩) | (go_at_call 27; refine (isNaN _ _).mono ?_; rintro e w1 ⟨rfl, rfl⟩))
          go_ret
          exact ⟨rfl, rfl⟩
        | false =>
          clear hk
          go_enter Try.func25, Try.ntmps25
          go_wp2_with (first | (go_at_call 23; refine (signbit _ (by assumption) _).mono ?_; rintro e w1 ⟨rfl, rfl⟩) | (go_at_call 27; refine (isNaN _ _).mono ?_; rintro e w1 ⟨rfl, rfl⟩))
          go_ret
          exact ⟨by simp, rfl⟩
      · rw [other_words hk]
        rcases Int.lt_or_gt_of_ne hk with h | h
        · have h4 := ordLt ha hb h
          clear hk h
          go_enter Try.func25, Try.ntmps25
          go_wp2_with (first | (go_at_call 23; refine (signbit _ (by assumption) _).mono ?_; rintro e w1 ⟨rfl, rfl⟩) | (go_at_call 27; refine (isNaN _ _).mono ?_; rintro e w1 ⟨rfl, rfl⟩))
          go_ret
          exact ⟨by simp, rfl⟩
        · have h4 := ordGt ha hb h
          clear hk h
          go_enter Try.func25, Try.ntmps25
          go_wp2_with (first | (go_at_call 23; refine (signbit _ (by assumption) _).mono ?_; rintro e w1 ⟨rfl, rfl⟩) | (go_at_call 27; refine (isNaN _ _).mono ?_; rintro e w1 ⟨rfl, rfl⟩))
          go_ret
          exact ⟨by simp, rfl⟩
end Go.Proofs.Ytcbamaocccmbgaa.same
