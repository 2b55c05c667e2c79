/- Figures: l01Figure, l01Value, and the closure in DecodeHex. -/
import Derived.Test.YtmpeolnnfblbkaaDoorHexL
namespace Go.Proofs.YtmpeolnnfblbkaaDoor.hex
open Go.RowKit base
set_option linter.unusedVariables false

theorem ret_int {k : IntKind} {a b : Int} (h : a = b) : Ending.returned (.int k a) = .returned (.int k b) := by rw [h]

/-- a figure's byte, of a whole number -/
def figI (x : Int) : Int := (fig x.toNat : Nat)
theorem figI_of {x : Int} {n : Nat} (h : x = n) : figI x = (fig n : Nat) := by subst h; rfl

theorem figure (x : Int) (h0 : 0 ≤ x) (h : x < 16) (w : World) : Calls Tryd.prog 25 #[.int .i64 x] w fun e w' => e = .returned (.int .u8 (figI x)) ∧ w = w' := by
  by_cases h1 : x < 10
  · go_enter Tryd.func25, Tryd.ntmps25
    go_wp2
    go_ret
    refine ⟨?_, rfl⟩
    unfold figI fig; rw [if_pos (by omega)]
    refine ret_int ?_
    omega
  · go_enter Tryd.func25, Tryd.ntmps25
    go_wp2
    go_ret
    refine ⟨?_, rfl⟩
    unfold figI fig; rw [if_neg (by omega)]
    refine ret_int ?_
    omega


theorem digit (b : UInt8) (w : World) : Calls Tryd.prog 38 #[.int .u8 b.toNat] w fun e w' => e = .returned (.int .i64 (val b)) ∧ w = w' := by
  have hb := b.toNat_lt
  by_cases h1 : 48 ≤ b.toNat ∧ b.toNat ≤ 57
  · have e : val b = (b.toNat : Int) - 48 := by unfold val; rw [if_pos h1]
    rw [e]
    obtain ⟨h2, h3⟩ := h1
    clear e
    go_enter Tryd.func38, Tryd.ntmps38
    go_wp2
    go_ret
    exact ⟨rfl, rfl⟩
  · by_cases h4 : 97 ≤ b.toNat ∧ b.toNat ≤ 102
    · have e : val b = (b.toNat : Int) - 87 := by unfold val; rw [if_neg h1, if_pos h4]
      rw [e]
      obtain ⟨h2, h3⟩ := h4
      clear e h1
      go_enter Tryd.func38, Tryd.ntmps38
      go_wp2
      go_ret
      exact ⟨ret_int (by omega), rfl⟩
    · have e : val b = -1 := by unfold val; rw [if_neg h1, if_neg h4]
      rw [e]
      clear e
      go_enter Tryd.func38, Tryd.ntmps38
      go_wp2
      all_goals (first | (exfalso; omega) | (go_ret; exact ⟨rfl, rfl⟩))
end Go.Proofs.YtmpeolnnfblbkaaDoor.hex
