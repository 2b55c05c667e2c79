/- The contract of sameFloat: two float64 words are the same. -/
import Derived.Test.YtpbklllmplimaaaDoorFlRun
namespace Go.Proofs.YtpbklllmplimaaaDoor.same
open Go.RowKit Fl
set_option linter.unusedVariables false

theorem sameFloat (a b : Nat) (wa : a < 2 ^ 64) (wb : b < 2 ^ 64) (w : World) : Calls Tryd.prog 9 #[.float .f64 a, .float .f64 b] w fun e w' => e = .returned (.bool (smB a b)) ∧ w = w' := by
  cases ha : num D a with
  | false =>
    rw [smB_l ha]
    have h1 := ordNanL ha
    have h2 := ordNanR ha
    cases hb : num D b with
    | false =>
      have h3 := ordNanL hb b
      clear ha hb wa wb
      go_enter Tryd.func9, Tryd.ntmps9
      go_wp2
      go_ret
      exact ⟨by simp, rfl⟩
    | true =>
      have h3 := ordSelf hb
      clear ha hb wa wb
      go_enter Tryd.func9, Tryd.ntmps9
      go_wp2
      go_ret
      exact ⟨by simp, rfl⟩
  | true =>
    have h1 := ordSelf ha
    cases hb : num D b with
    | false =>
      rw [smB_r hb, ha]
      have h3 := ordNanL hb
      have h4 := ordNanR hb
      clear ha hb wa wb
      go_enter Tryd.func9, Tryd.ntmps9
      go_wp2
      go_ret
      exact ⟨by simp, rfl⟩
    | true =>
      rw [smB_num ha hb]
      have h3 := ordSelf hb
      have ne0 : ∀ {x : Nat}, num D x = true → rg D x ≠ 0 → ∃ c, c ≠ Ordering.eq ∧ D.order x 0 = some c := by
        intro x hx h0
        rw [ord hx (num_zero D), key_zero]
        have : key D x ≠ 0 := by rw [Ne, key_eq_zero]; exact h0
        rcases Int.lt_or_gt_of_ne this with h | h
        · exact ⟨.lt, by decide, by rw [cmp_lt h]⟩
        · exact ⟨.gt, by decide, by rw [cmp_gt h]⟩
      by_cases hk : key D a = key D b
      · have h4 := ordEq ha hb hk
        rw [same_words wa wb hk]
        by_cases h0 : rg D a = 0
        · have h0' : rg D b = 0 := by
            rw [← key_eq_zero] at h0 ⊢; omega
          have h5 := ordEq ha (num_zero D) (by rw [key_zero, key_eq_zero]; exact h0)
          have h5' := ordEq hb (num_zero D) (by rw [key_zero, key_eq_zero]; exact h0')
          have r1 := run_inv (P := Tryd.prog) h0
          have r2 := run_inv (P := Tryd.prog) h0'
          have h6 := inf_pos (ng D a)
          have h7 := inf_pos (ng D b)
          clear ha hb wa wb hk h0 h0' ne0
          go_enter Tryd.func9, Tryd.ntmps9
          go_wp2
          go_ret
          refine ⟨?_, rfl⟩
          cases ng D a <;> cases ng D b <;> rfl
        · have hs : (ng D a == ng D b) = true := by
            rw [← same_words wa wb hk, word_of_key (f := D) wa wb hk h0]; simp
          rw [hs]
          obtain ⟨c, hc, h5⟩ := ne0 ha h0
          have hc' : (some c == some Ordering.eq) = false := by cases c <;> first | rfl | exact absurd rfl hc
          clear ha hb wa wb hk h0 hs ne0 hc
          go_enter Tryd.func9, Tryd.ntmps9
          go_wp2
          go_ret
          exact ⟨rfl, rfl⟩
      · rw [other_words hk]
        have ne1 : ∃ c, c ≠ Ordering.eq ∧ D.order a b = some c := by
          rw [ord ha hb]
          rcases Int.lt_or_gt_of_ne hk with h | h
          · exact ⟨.lt, by decide, by rw [cmp_lt h]⟩
          · exact ⟨.gt, by decide, by rw [cmp_gt h]⟩
        obtain ⟨c, hc, h4⟩ := ne1
        have hc' : (some c == some Ordering.eq) = false := by cases c <;> first | rfl | exact absurd rfl hc
        clear hc
        by_cases h0 : rg D a = 0
        · have h0' : rg D b ≠ 0 := by
            intro h; rw [← key_eq_zero] at h h0; omega
          have h5 := ordEq ha (num_zero D) (by rw [key_zero, key_eq_zero]; exact h0)
          obtain ⟨d, hd, h6⟩ := ne0 hb h0'
          have hd' : (some d == some Ordering.eq) = false := by cases d <;> first | rfl | exact absurd rfl hd
          clear ha hb wa wb hk h0 h0' ne0 hd
          go_enter Tryd.func9, Tryd.ntmps9
          go_wp2
          go_ret
          exact ⟨rfl, rfl⟩
        · obtain ⟨d, hd, h6⟩ := ne0 ha h0
          have hd' : (some d == some Ordering.eq) = false := by cases d <;> first | rfl | exact absurd rfl hd
          clear ha hb wa wb hk h0 ne0 hd
          go_enter Tryd.func9, Tryd.ntmps9
          go_wp2
          go_ret
          exact ⟨rfl, rfl⟩

end Go.Proofs.YtpbklllmplimaaaDoor.same
