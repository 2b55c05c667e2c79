/- The contract of SignText. -/
import Derived.Test.YtpbklllmplimaaaDoorFlRun
namespace Go.Proofs.YtpbklllmplimaaaDoor.same
open Go.RowKit Fl
set_option linter.unusedVariables false

theorem spec_SignText (x : Nat) (w : World) : Calls Tryd.prog 40 #[.float .f32 x] w fun e w' => e = .returned (.string (signTx x)) ∧ w = w' := by
  have hI : 0 < S.infRung := by rw [S_I]; omega
  cases hx : num S x with
  | false =>
    have h1 := ordNanL hx x
    have hfin : signTx x = ⟨#[]⟩ := by simp [signTx, hx]
    rw [hfin]
    clear hx hfin hI
    go_enter Tryd.func40, Tryd.ntmps40
    go_wp2
    go_ret
    exact ⟨rfl, rfl⟩
  | true =>
    have h1 := ordSelf hx
    by_cases h0 : rg S x = 0
    · have h2 := ordEq hx (num_zero S) (by rw [key_zero, key_eq_zero]; exact h0)
      have r1 := run_inv32 (P := Tryd.prog) h0
      cases hs : ng S x with
      | true =>
        rw [hs] at r1
        have h3 := ordLt (k := .f32) (num_inf S true) (num_zero S) (by rw [key_zero, key_inf]; simp [sg]; omega)
        have hfin : signTx x = ⟨#[45]⟩ := by simp [signTx, hx, hs]
        rw [hfin]
        clear hx hs hfin h0 hI
        go_enter Tryd.func40, Tryd.ntmps40
        go_wp2
        go_ret
        exact ⟨rfl, rfl⟩
      | false =>
        rw [hs] at r1
        have h3 := ordGt (k := .f32) (num_inf S false) (num_zero S) (by rw [key_zero, key_inf]; simp [sg]; omega)
        have hfin : signTx x = ⟨#[43]⟩ := by simp [signTx, hx, hs]
        rw [hfin]
        clear hx hs hfin h0 hI
        go_enter Tryd.func40, Tryd.ntmps40
        go_wp2
        go_ret
        exact ⟨rfl, rfl⟩
    · cases hs : ng S x with
      | true =>
        have h2 := ordLt hx (num_zero S) (by rw [key_zero, key_neg]; exact ⟨hs, h0⟩)
        have hfin : signTx x = ⟨#[45]⟩ := by simp [signTx, hx, hs]
        rw [hfin]
        clear hx hs hfin h0 hI
        go_enter Tryd.func40, Tryd.ntmps40
        go_wp2
        go_ret
        exact ⟨rfl, rfl⟩
      | false =>
        have h2 := ordGt hx (num_zero S) (by rw [key_zero]; exact key_pos.2 ⟨hs, h0⟩)
        have hfin : signTx x = ⟨#[43]⟩ := by simp [signTx, hx, hs]
        rw [hfin]
        clear hx hs hfin h0 hI
        go_enter Tryd.func40, Tryd.ntmps40
        go_wp2
        go_ret
        exact ⟨rfl, rfl⟩
end Go.Proofs.YtpbklllmplimaaaDoor.same
