/- finiteSingle at whatever single. -/
import Derived.Test.YtpbklllmplimaaaDoorFine
import Derived.Test.YtpbklllmplimaaaDoorFinite
namespace Go.Proofs.YtpbklllmplimaaaDoor.same
open Go.RowKit Fl
set_option linter.unusedVariables false

theorem fin_up (x : Nat) (h : num S x = true) : fin D (up x) = fin S x := by
  cases hf : fin S x with
  | true => exact (up_fin hf).2.1
  | false =>
    have hri : rg S x = S.infRung := by
      have h1 := num_iff.1 h
      have h2 : ¬ rg S x < S.infRung := fun h => by rw [fin_iff.2 h] at hf; cases hf
      omega
    rw [(up_inf hri).2]
    unfold fin
    rw [rg_inf]; simp
theorem fin_nan {f : Ieee.Format} {x : Nat} (h : num f x = false) : fin f x = false := by
  cases hf : fin f x with
  | false => rfl
  | true => rw [num_of_fin hf] at h; cases h

theorem finS (x : Nat) (w : World) : Calls Tryd.prog 48 #[.float .f32 x] w (BoolD (fin S x) w) := by
  cases hn : num S x with
  | true =>
    obtain ⟨h1, h2, h3, h4⟩ := up_num hn
    have hcv : ∀ W : World, (convert 22 26 (.float .f32 x)).run Tryd.prog W = .ok (.float .f64 (up x)) W := fun W =>
      run_convert_float_float W 22 26 .f32 .f64 x _ (by rw [Tryd.underlying22]; rfl) Tryd.underlying26 h1
    have HH := Lib.hid (fin_up x hn)
    have H4 := Lib.hid h4
    clear h1 h2 h3 h4 hn
    go_enter Tryd.func48, Tryd.ntmps48
    go_wp2_with fail
    refine (finite _ H4.out _).mono ?_
    rintro e w1 ⟨rfl, rfl⟩
    go_wp2_with fail
    go_ret
    exact ⟨by (rw [HH.out]; rfl), 0, rfl⟩
  | false =>
    obtain ⟨nb, hnb, hrun⟩ := run_conv_nan Tryd.prog (s := .f32) (k := .f64) (by decide) hn 22 26 (by rw [Tryd.underlying22]; rfl) Tryd.underlying26
    have HNB := Lib.hid hnb
    have HF := Lib.hid (fin_nan hn)
    clear hnb hn
    go_enter Tryd.func48, Tryd.ntmps48
    go_wp2_with fail
    refine (finite _ (HNB.out _).2 _).mono ?_
    rintro e w1 ⟨rfl, rfl⟩
    rw [fin_nan (HNB.out _).1]
    go_wp2_with fail
    go_ret
    exact ⟨by (rw [HF.out]; rfl), 1, rfl⟩
end Go.Proofs.YtpbklllmplimaaaDoor.same
