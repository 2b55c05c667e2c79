/- Contracts of SameSingle in both packages: the two singles' float64 are the same. -/
import Derived.Test.YtcbamaocccmbgaaSame
namespace Go.Proofs.Ytcbamaocccmbgaa.same
open Go.RowKit Fl
set_option linter.unusedVariables false

/-- two singles are the same -/
def sm32 (a b : Nat) : Bool := if num S a && num S b then smB (up a) (up b) else !num S a && !num S b

theorem spec_SameSingle (a b : Nat) (w : World) : Calls Try.prog 16 #[.float .f32 a, .float .f32 b] w fun e w' => e = .returned (.bool (sm32 a b)) ∧ Below w.heap.size w w' := by
  cases ha : num S a with
  | false =>
    obtain ⟨ga, hga, ra⟩ := run_conv_nan Try.prog (s := .f32) (k := .f64) (by decide) ha 31 38 (by kernel_rfl) Try.underlying38
    cases hb : num S b with
    | false =>
      obtain ⟨gb, hgb, rb⟩ := run_conv_nan Try.prog (s := .f32) (k := .f64) (by decide) hb 31 38 (by kernel_rfl) Try.underlying38
      have HA : Hid (∀ w, num D (ga w) = false ∧ ga w < 2 ^ 64) := hga
      have HB : Hid (∀ w, num D (gb w) = false ∧ gb w < 2 ^ 64) := hgb
      have hfin : sm32 a b = true := by simp [sm32, ha, hb]
      rw [hfin]
      clear hga hgb ha hb hfin
      go_enter Try.func16, Try.ntmps16
      go_wp2_with fail
      refine (l01Same _ _ (HA.out _).2 (HB.out _).2 _).mono ?_
      rintro e w1 ⟨rfl, rfl⟩
      go_wp2_with fail
      go_ret
      refine ⟨?_, (Below.refl _ _).drew.drew⟩
      rw [show ∀ x y, smB (ga x) (gb y) = true from fun x y => smB_nan (HA.out x).1 (HB.out y).1]
      rfl
    | true =>
      obtain ⟨h1, h2, _, h3⟩ := up_num hb
      have rb := fun w => run_convert_float_float (P := Try.prog) w 31 38 .f32 .f64 b (up b) (by kernel_rfl) Try.underlying38 h1
      have HA : Hid (∀ w, num D (ga w) = false ∧ ga w < 2 ^ 64) := hga
      have HB : Hid (num D (up b) = true ∧ up b < 2 ^ 64) := ⟨h2, h3⟩
      have hfin : sm32 a b = false := by simp [sm32, ha, hb]
      rw [hfin]
      clear hga ha hb h1 h2 h3 hfin
      go_enter Try.func16, Try.ntmps16
      go_wp2_with fail
      refine (l01Same _ _ (HA.out _).2 HB.out.2 _).mono ?_
      rintro e w1 ⟨rfl, rfl⟩
      go_wp2_with fail
      go_ret
      refine ⟨?_, (Below.refl _ _).drew⟩
      rw [show ∀ x, smB (ga x) (up b) = false from fun x => by rw [smB_l (HA.out x).1, HB.out.1]; rfl]
      rfl
  | true =>
    obtain ⟨h1, h2, _, h3⟩ := up_num ha
    have ra := fun w => run_convert_float_float (P := Try.prog) w 31 38 .f32 .f64 a (up a) (by kernel_rfl) Try.underlying38 h1
    have HA : Hid (num D (up a) = true ∧ up a < 2 ^ 64) := ⟨h2, h3⟩
    clear h1 h2 h3
    cases hb : num S b with
    | false =>
      obtain ⟨gb, hgb, rb⟩ := run_conv_nan Try.prog (s := .f32) (k := .f64) (by decide) hb 31 38 (by kernel_rfl) Try.underlying38
      have HB : Hid (∀ w, num D (gb w) = false ∧ gb w < 2 ^ 64) := hgb
      have hfin : sm32 a b = false := by simp [sm32, ha, hb]
      rw [hfin]
      clear hgb ha hb hfin
      go_enter Try.func16, Try.ntmps16
      go_wp2_with fail
      refine (l01Same _ _ HA.out.2 (HB.out _).2 _).mono ?_
      rintro e w1 ⟨rfl, rfl⟩
      go_wp2_with fail
      go_ret
      refine ⟨?_, (Below.refl _ _).drew⟩
      rw [show ∀ x, smB (up a) (gb x) = false from fun x => by rw [smB_r (HB.out x).1, HA.out.1]; rfl]
      rfl
    | true =>
      obtain ⟨h1, h2, _, h3⟩ := up_num hb
      have rb := fun w => run_convert_float_float (P := Try.prog) w 31 38 .f32 .f64 b (up b) (by kernel_rfl) Try.underlying38 h1
      have HB : Hid (num D (up b) = true ∧ up b < 2 ^ 64) := ⟨h2, h3⟩
      have hfin : sm32 a b = smB (up a) (up b) := by simp [sm32, ha, hb]
      rw [hfin]
      clear ha hb h1 h2 h3 hfin
      go_enter Try.func16, Try.ntmps16
      go_wp2_with fail
      refine (l01Same _ _ HA.out.2 HB.out.2 _).mono ?_
      rintro e w1 ⟨rfl, rfl⟩
      go_wp2_with fail
      go_ret
      exact ⟨rfl, Below.refl _ _⟩

theorem impl_SameSingle (a b : Nat) (w : World) : Calls Try.prog 17 #[.float .f32 a, .float .f32 b] w fun e w' => e = .returned (.bool (sm32 a b)) ∧ Below w.heap.size w w' := by
  cases ha : num S a with
  | false =>
    obtain ⟨ga, hga, ra⟩ := run_conv_nan Try.prog (s := .f32) (k := .f64) (by decide) ha 31 38 (by kernel_rfl) Try.underlying38
    cases hb : num S b with
    | false =>
      obtain ⟨gb, hgb, rb⟩ := run_conv_nan Try.prog (s := .f32) (k := .f64) (by decide) hb 31 38 (by kernel_rfl) Try.underlying38
      have HA : Hid (∀ w, num D (ga w) = false ∧ ga w < 2 ^ 64) := hga
      have HB : Hid (∀ w, num D (gb w) = false ∧ gb w < 2 ^ 64) := hgb
      have hfin : sm32 a b = true := by simp [sm32, ha, hb]
      rw [hfin]
      clear hga hgb ha hb hfin
      go_enter Try.func17, Try.ntmps17
      go_wp2_with fail
      refine (impl_same _ _ (HA.out _).2 (HB.out _).2 _).mono ?_
      rintro e w1 ⟨rfl, rfl⟩
      go_wp2_with fail
      go_ret
      refine ⟨?_, (Below.refl _ _).drew.drew⟩
      rw [show ∀ x y, smB (ga x) (gb y) = true from fun x y => smB_nan (HA.out x).1 (HB.out y).1]
      rfl
    | true =>
      obtain ⟨h1, h2, _, h3⟩ := up_num hb
      have rb := fun w => run_convert_float_float (P := Try.prog) w 31 38 .f32 .f64 b (up b) (by kernel_rfl) Try.underlying38 h1
      have HA : Hid (∀ w, num D (ga w) = false ∧ ga w < 2 ^ 64) := hga
      have HB : Hid (num D (up b) = true ∧ up b < 2 ^ 64) := ⟨h2, h3⟩
      have hfin : sm32 a b = false := by simp [sm32, ha, hb]
      rw [hfin]
      clear hga ha hb h1 h2 h3 hfin
      go_enter Try.func17, Try.ntmps17
      go_wp2_with fail
      refine (impl_same _ _ (HA.out _).2 HB.out.2 _).mono ?_
      rintro e w1 ⟨rfl, rfl⟩
      go_wp2_with fail
      go_ret
      refine ⟨?_, (Below.refl _ _).drew⟩
      rw [show ∀ x, smB (ga x) (up b) = false from fun x => by rw [smB_l (HA.out x).1, HB.out.1]; rfl]
      rfl
  | true =>
    obtain ⟨h1, h2, _, h3⟩ := up_num ha
    have ra := fun w => run_convert_float_float (P := Try.prog) w 31 38 .f32 .f64 a (up a) (by kernel_rfl) Try.underlying38 h1
    have HA : Hid (num D (up a) = true ∧ up a < 2 ^ 64) := ⟨h2, h3⟩
    clear h1 h2 h3
    cases hb : num S b with
    | false =>
      obtain ⟨gb, hgb, rb⟩ := run_conv_nan Try.prog (s := .f32) (k := .f64) (by decide) hb 31 38 (by kernel_rfl) Try.underlying38
      have HB : Hid (∀ w, num D (gb w) = false ∧ gb w < 2 ^ 64) := hgb
      have hfin : sm32 a b = false := by simp [sm32, ha, hb]
      rw [hfin]
      clear hgb ha hb hfin
      go_enter Try.func17, Try.ntmps17
      go_wp2_with fail
      refine (impl_same _ _ HA.out.2 (HB.out _).2 _).mono ?_
      rintro e w1 ⟨rfl, rfl⟩
      go_wp2_with fail
      go_ret
      refine ⟨?_, (Below.refl _ _).drew⟩
      rw [show ∀ x, smB (up a) (gb x) = false from fun x => by rw [smB_r (HB.out x).1, HA.out.1]; rfl]
      rfl
    | true =>
      obtain ⟨h1, h2, _, h3⟩ := up_num hb
      have rb := fun w => run_convert_float_float (P := Try.prog) w 31 38 .f32 .f64 b (up b) (by kernel_rfl) Try.underlying38 h1
      have HB : Hid (num D (up b) = true ∧ up b < 2 ^ 64) := ⟨h2, h3⟩
      have hfin : sm32 a b = smB (up a) (up b) := by simp [sm32, ha, hb]
      rw [hfin]
      clear ha hb h1 h2 h3 hfin
      go_enter Try.func17, Try.ntmps17
      go_wp2_with fail
      refine (impl_same _ _ HA.out.2 HB.out.2 _).mono ?_
      rintro e w1 ⟨rfl, rfl⟩
      go_wp2_with fail
      go_ret
      exact ⟨rfl, Below.refl _ _⟩
end Go.Proofs.Ytcbamaocccmbgaa.same
