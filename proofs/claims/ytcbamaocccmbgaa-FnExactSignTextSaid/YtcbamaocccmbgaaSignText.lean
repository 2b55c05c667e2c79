/- Contracts of SignText in both packages. -/
import Derived.Test.YtcbamaocccmbgaaSame
namespace Go.Proofs.Ytcbamaocccmbgaa.same
open Go.RowKit Fl
set_option linter.unusedVariables false

/-- the sign of a single, as text -/
def signTx (x : Nat) : ByteArray := if num S x then (if ng S x then ⟨#[45]⟩ else ⟨#[43]⟩) else ⟨#[]⟩

theorem impl_SignText (x : Nat) (w : World) : Calls Try.prog 15 #[.float .f32 x] w fun e w' => e = .returned (.string (signTx x)) ∧ w = w' := by
  cases hx : num S x with
  | false =>
    have h1 := ordNanL hx x
    have hfin : signTx x = ⟨#[]⟩ := by simp [signTx, hx]
    rw [hfin]
    clear hx hfin
    go_enter Try.func15, Try.ntmps15
    go_wp2
    go_ret
    exact ⟨rfl, rfl⟩
  | true =>
    have h1 := ordSelf hx
    obtain ⟨u1, u2, u3, u4⟩ := up_num hx
    have ra := fun w => run_convert_float_float (P := Try.prog) w 31 38 .f32 .f64 x (up x) (by kernel_rfl) Try.underlying38 u1
    cases hs : ng S x with
    | true =>
      have hfin : signTx x = ⟨#[45]⟩ := by simp [signTx, hx, hs]
      rw [hfin]
      rw [hs] at u3
      clear hx hs hfin u1 u2
      go_enter Try.func15, Try.ntmps15
      go_wp2_with (go_at_call 23; refine (signbit _ u4 _).mono ?_; rintro e w1 ⟨rfl, rfl⟩)
      go_ret
      exact ⟨rfl, rfl⟩
    | false =>
      have hfin : signTx x = ⟨#[43]⟩ := by simp [signTx, hx, hs]
      rw [hfin]
      rw [hs] at u3
      clear hx hs hfin u1 u2
      go_enter Try.func15, Try.ntmps15
      go_wp2_with (go_at_call 23; refine (signbit _ u4 _).mono ?_; rintro e w1 ⟨rfl, rfl⟩)
      go_ret
      exact ⟨rfl, rfl⟩

theorem one32_fin : fin S 1065353216 = true := by unfold fin rg; rw [S_W, S_I]; decide
theorem one32_rg : rg S 1065353216 ≠ 0 := by unfold rg; rw [S_W]; decide
theorem one32_ng : ng S 1065353216 = false := by unfold ng; rw [S_W]; decide
theorem run_inv32 {P : Program} {a : Nat} (h0 : rg S a = 0) (t : TypeId) (w : World) : (binOp .quo t (.float .f32 1065353216) (.float .f32 a)).run P w = .ok (.float .f32 (inf S (ng S a))) w := by
  have := div_zero (k := .f32) one32_fin one32_rg h0
  rw [one32_ng, Bool.false_xor] at this
  exact run_float_arith w .quo t .f32 _ _ _ this

theorem spec_SignText (x : Nat) (w : World) : Calls Try.prog 14 #[.float .f32 x] w fun e w' => e = .returned (.string (signTx x)) ∧ w = w' := by
  have hI : 0 < S.infRung := by rw [S_I]; omega
  cases hx : num S x with
  | false =>
    have h1 := ordNanL hx x
    have hfin : signTx x = ⟨#[]⟩ := by simp [signTx, hx]
    rw [hfin]
    clear hx hfin hI
    go_enter Try.func14, Try.ntmps14
    go_wp2
    go_ret
    exact ⟨rfl, rfl⟩
  | true =>
    have h1 := ordSelf hx
    by_cases h0 : rg S x = 0
    · have h2 := ordEq hx (num_zero S) (by rw [key_zero, key_eq_zero]; exact h0)
      have r1 := run_inv32 (P := Try.prog) h0
      cases hs : ng S x with
      | true =>
        rw [hs] at r1
        have h3 := ordLt (k := .f32) (num_inf S true) (num_zero S) (by rw [key_zero, key_inf]; simp [sg]; omega)
        have hfin : signTx x = ⟨#[45]⟩ := by simp [signTx, hx, hs]
        rw [hfin]
        clear hx hs hfin h0 hI
        go_enter Try.func14, Try.ntmps14
        go_wp2
        go_ret
        exact ⟨rfl, rfl⟩
      | false =>
        rw [hs] at r1
        have h3 := ordGt (k := .f32) (num_inf S false) (num_zero S) (by rw [key_zero, key_inf]; simp [sg]; omega)
        have hfin : signTx x = ⟨#[43]⟩ := by simp [signTx, hx, hs]
        rw [hfin]
        clear hx hs hfin h0 hI
        go_enter Try.func14, Try.ntmps14
        go_wp2
        go_ret
        exact ⟨rfl, rfl⟩
    · cases hs : ng S x with
      | true =>
        have h2 := ordLt hx (num_zero S) (by rw [key_zero, key_neg]; exact ⟨hs, h0⟩)
        have hfin : signTx x = ⟨#[45]⟩ := by simp [signTx, hx, hs]
        rw [hfin]
        clear hx hs hfin h0 hI
        go_enter Try.func14, Try.ntmps14
        go_wp2
        go_ret
        exact ⟨rfl, rfl⟩
      | false =>
        have h2 := ordGt hx (num_zero S) (by rw [key_zero]; exact key_pos.2 ⟨hs, h0⟩)
        have hfin : signTx x = ⟨#[43]⟩ := by simp [signTx, hx, hs]
        rw [hfin]
        clear hx hs hfin h0 hI
        go_enter Try.func14, Try.ntmps14
        go_wp2
        go_ret
        exact ⟨rfl, rfl⟩
end Go.Proofs.Ytcbamaocccmbgaa.same
