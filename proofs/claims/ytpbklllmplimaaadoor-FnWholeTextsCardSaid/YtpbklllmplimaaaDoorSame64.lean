/- Contracts of same64 and same32 of the laws: two words are the same. -/
import Derived.Test.YtpbklllmplimaaaDoorFlRun
namespace Go.Proofs.YtpbklllmplimaaaDoor.same
open Go.RowKit Fl
set_option linter.unusedVariables false

theorem same64 (a b : Nat) (wa : a < 2 ^ 64) (wb : b < 2 ^ 64) (w : World) : Calls Tryd.prog 33 #[.float .f64 a, .float .f64 b] w fun e w' => e = .returned (.bool (smB a b)) ∧ w = w' := by
  cases ha : num D a with
  | false =>
    rw [smB_l ha]
    have h1 := ordNanL ha
    have h2 := ordNanR ha
    cases hb : num D b with
    | false =>
      have h3 := ordNanL hb b
      clear ha hb wa wb
      go_enter Tryd.func33, Tryd.ntmps33
      go_wp2
      go_ret
      exact ⟨by simp, rfl⟩
    | true =>
      have h3 := ordSelf hb
      clear ha hb wa wb
      go_enter Tryd.func33, Tryd.ntmps33
      go_wp2
      go_ret
      exact ⟨by simp, rfl⟩
  | true =>
    have h1 := ordSelf ha
    cases hb : num D b with
    | false =>
      rw [smB_r hb, ha]
      have h3 := ordNanL hb
      have h4 := ordNanR hb
      clear ha hb wa wb
      go_enter Tryd.func33, Tryd.ntmps33
      go_wp2
      go_ret
      exact ⟨by simp, rfl⟩
    | true =>
      rw [smB_num ha hb]
      have h3 := ordSelf hb
      by_cases hk : key D a = key D b
      · have h4 := ordEq ha hb hk
        rw [same_words wa wb hk]
        by_cases h0 : rg D a = 0
        · have h0' : rg D b = 0 := by
            rw [← key_eq_zero] at h0 ⊢; omega
          have h5 := ordEq ha (num_zero D) (by rw [key_zero, key_eq_zero]; exact h0)
          have r1 := run_inv (P := Tryd.prog) h0
          have r2 := run_inv (P := Tryd.prog) h0'
          have h6 := inf_key_eq (ng D a) (ng D b)
          clear ha hb wa wb hk h0 h0'
          go_enter Tryd.func33, Tryd.ntmps33
          go_wp2
          go_ret
          exact ⟨by simp, rfl⟩
        · have hs : (ng D a == ng D b) = true := by
            rw [← same_words wa wb hk, word_of_key (f := D) wa wb hk h0]; simp
          rw [hs]
          have h5 : ∃ c, c ≠ Ordering.eq ∧ D.order a 0 = some c := by
            rw [ord ha (num_zero D), key_zero]
            have : key D a ≠ 0 := by rw [Ne, key_eq_zero]; exact h0
            rcases Int.lt_or_gt_of_ne this with h | h
            · exact ⟨.lt, by decide, by rw [cmp_lt h]⟩
            · exact ⟨.gt, by decide, by rw [cmp_gt h]⟩
          obtain ⟨c, hc, h5⟩ := h5
          clear ha hb wa wb hk h0 hs
          cases c <;> first | exact absurd rfl hc | skip
          all_goals
            clear hc
            go_enter Tryd.func33, Tryd.ntmps33
            go_wp2
            go_ret
            exact ⟨rfl, rfl⟩
      · rw [other_words hk]
        rcases Int.lt_or_gt_of_ne hk with h | h
        · have h4 := ordLt ha hb h
          clear ha hb wa wb hk h
          go_enter Tryd.func33, Tryd.ntmps33
          go_wp2
          go_ret
          exact ⟨by simp, rfl⟩
        · have h4 := ordGt ha hb h
          clear ha hb wa wb hk h
          go_enter Tryd.func33, Tryd.ntmps33
          go_wp2
          go_ret
          exact ⟨by simp, rfl⟩

/-- two singles are the same -/
def sm32 (a b : Nat) : Bool := if num S a && num S b then smB (up a) (up b) else !num S a && !num S b
theorem sm32_refl (a : Nat) : sm32 a a = true := by unfold sm32; cases num S a <;> simp [smB_refl]

theorem same32 (a b : Nat) (w : World) : Calls Tryd.prog 13 #[.float .f32 a, .float .f32 b] w fun e w' => e = .returned (.bool (sm32 a b)) ∧ Below w.heap.size w w' := by
  cases ha : num S a with
  | false =>
    obtain ⟨ga, hga, ra⟩ := run_conv_nan Tryd.prog (s := .f32) (k := .f64) (by decide) ha 22 26 (by kernel_rfl) Tryd.underlying26
    cases hb : num S b with
    | false =>
      obtain ⟨gb, hgb, rb⟩ := run_conv_nan Tryd.prog (s := .f32) (k := .f64) (by decide) hb 22 26 (by kernel_rfl) Tryd.underlying26
      have HA : Hid (∀ w, num D (ga w) = false ∧ ga w < 2 ^ 64) := hga
      have HB : Hid (∀ w, num D (gb w) = false ∧ gb w < 2 ^ 64) := hgb
      have hfin : sm32 a b = true := by simp [sm32, ha, hb]
      rw [hfin]
      clear hga hgb ha hb hfin
      go_enter Tryd.func13, Tryd.ntmps13
      go_wp2_with fail
      refine (same64 _ _ (HA.out _).2 (HB.out _).2 _).mono ?_
      rintro e w1 ⟨rfl, rfl⟩
      go_wp2_with fail
      go_ret
      refine ⟨?_, (Below.refl _ _).drew.drew⟩
      rw [show ∀ x y, smB (ga x) (gb y) = true from fun x y => smB_nan (HA.out x).1 (HB.out y).1]
      rfl
    | true =>
      obtain ⟨h1, h2, _, h3⟩ := up_num hb
      have rb := fun w => run_convert_float_float (P := Tryd.prog) w 22 26 .f32 .f64 b (up b) (by kernel_rfl) Tryd.underlying26 h1
      have HA : Hid (∀ w, num D (ga w) = false ∧ ga w < 2 ^ 64) := hga
      have HB : Hid (num D (up b) = true ∧ up b < 2 ^ 64) := ⟨h2, h3⟩
      have hfin : sm32 a b = false := by simp [sm32, ha, hb]
      rw [hfin]
      clear hga ha hb h1 h2 h3 hfin
      go_enter Tryd.func13, Tryd.ntmps13
      go_wp2_with fail
      refine (same64 _ _ (HA.out _).2 HB.out.2 _).mono ?_
      rintro e w1 ⟨rfl, rfl⟩
      go_wp2_with fail
      go_ret
      refine ⟨?_, (Below.refl _ _).drew⟩
      rw [show ∀ x, smB (ga x) (up b) = false from fun x => by rw [smB_l (HA.out x).1, HB.out.1]; rfl]
      rfl
  | true =>
    obtain ⟨h1, h2, _, h3⟩ := up_num ha
    have ra := fun w => run_convert_float_float (P := Tryd.prog) w 22 26 .f32 .f64 a (up a) (by kernel_rfl) Tryd.underlying26 h1
    have HA : Hid (num D (up a) = true ∧ up a < 2 ^ 64) := ⟨h2, h3⟩
    clear h1 h2 h3
    cases hb : num S b with
    | false =>
      obtain ⟨gb, hgb, rb⟩ := run_conv_nan Tryd.prog (s := .f32) (k := .f64) (by decide) hb 22 26 (by kernel_rfl) Tryd.underlying26
      have HB : Hid (∀ w, num D (gb w) = false ∧ gb w < 2 ^ 64) := hgb
      have hfin : sm32 a b = false := by simp [sm32, ha, hb]
      rw [hfin]
      clear hgb ha hb hfin
      go_enter Tryd.func13, Tryd.ntmps13
      go_wp2_with fail
      refine (same64 _ _ HA.out.2 (HB.out _).2 _).mono ?_
      rintro e w1 ⟨rfl, rfl⟩
      go_wp2_with fail
      go_ret
      refine ⟨?_, (Below.refl _ _).drew⟩
      rw [show ∀ x, smB (up a) (gb x) = false from fun x => by rw [smB_r (HB.out x).1, HA.out.1]; rfl]
      rfl
    | true =>
      obtain ⟨h1, h2, _, h3⟩ := up_num hb
      have rb := fun w => run_convert_float_float (P := Tryd.prog) w 22 26 .f32 .f64 b (up b) (by kernel_rfl) Tryd.underlying26 h1
      have HB : Hid (num D (up b) = true ∧ up b < 2 ^ 64) := ⟨h2, h3⟩
      have hfin : sm32 a b = smB (up a) (up b) := by simp [sm32, ha, hb]
      rw [hfin]
      clear ha hb h1 h2 h3 hfin
      go_enter Tryd.func13, Tryd.ntmps13
      go_wp2_with fail
      refine (same64 _ _ HA.out.2 HB.out.2 _).mono ?_
      rintro e w1 ⟨rfl, rfl⟩
      go_wp2_with fail
      go_ret
      exact ⟨rfl, Below.refl _ _⟩
end Go.Proofs.YtpbklllmplimaaaDoor.same
