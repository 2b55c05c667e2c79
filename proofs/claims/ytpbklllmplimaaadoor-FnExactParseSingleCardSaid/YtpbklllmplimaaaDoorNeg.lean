/- The sign of a word turned: the same rung, the other sign; twice: the same word. -/
import Derived.Test.YtpbklllmplimaaaDoorFlRun
namespace Go.Proofs.YtpbklllmplimaaaDoor.same
open Go.RowKit Fl Ieee
set_option linter.unusedVariables false

theorem xor_two_pow {r n : Nat} (h : r < 2 ^ n) : r ^^^ 2 ^ n = 2 ^ n + r := by
  apply Nat.eq_of_testBit_eq
  intro i
  rw [Nat.testBit_xor, Nat.testBit_two_pow]
  rcases Nat.lt_trichotomy i n with hi | hi | hi
  · rw [Nat.testBit_two_pow_add_gt hi]
    have : decide (n = i) = false := by simp; omega
    rw [this, Bool.xor_false]
  · subst hi
    rw [Nat.testBit_two_pow_add_eq, Nat.testBit_lt_two_pow h]; simp
  · have h1 : r.testBit i = false := Nat.testBit_lt_two_pow (Nat.lt_of_lt_of_le h (Nat.pow_le_pow_right (by omega) (by omega)))
    have h2 : (2 ^ n + r).testBit i = false := Nat.testBit_lt_two_pow (by
      have : 2 ^ (n + 1) ≤ 2 ^ i := Nat.pow_le_pow_right (by omega) (by omega)
      rw [Nat.pow_succ] at this; omega)
    have h3 : decide (n = i) = false := by simp; omega
    rw [h1, h2, h3]; rfl

theorem neg_word (k : FloatKind) (s : Bool) {r : Nat} (h : r < k.format.signWeight) : Op.negFloat k (k.format.word s r) = k.format.word (!s) r := by
  unfold Op.negFloat Format.word
  unfold Format.signWeight at h ⊢
  cases s
  · simp only [Bool.false_eq_true, if_false, Bool.not_false, if_true]
    exact xor_two_pow h
  · simp only [if_true, Bool.not_true, Bool.false_eq_true, if_false]
    rw [← xor_two_pow h, Nat.xor_assoc, Nat.xor_self, Nat.xor_zero]

theorem neg_eq (k : FloatKind) {x : Nat} (hx : x < 2 ^ k.format.width) : Op.negFloat k x = k.format.word (!ng k.format x) (rg k.format x) := by
  conv => lhs; rw [← word_self k.format hx]
  exact neg_word k _ (rg_lt _ _)
theorem rg_neg (k : FloatKind) {x : Nat} (hx : x < 2 ^ k.format.width) : rg k.format (Op.negFloat k x) = rg k.format x := by
  rw [neg_eq k hx, rg_word _ _ (rg_lt _ _)]
theorem ng_neg (k : FloatKind) {x : Nat} (hx : x < 2 ^ k.format.width) : ng k.format (Op.negFloat k x) = !ng k.format x := by
  rw [neg_eq k hx, ng_word _ _ (rg_lt _ _)]
theorem num_neg (k : FloatKind) {x : Nat} (hx : x < 2 ^ k.format.width) : num k.format (Op.negFloat k x) = num k.format x := by
  unfold num; rw [rg_neg k hx]
theorem fin_neg (k : FloatKind) {x : Nat} (hx : x < 2 ^ k.format.width) : fin k.format (Op.negFloat k x) = fin k.format x := by
  unfold fin; rw [rg_neg k hx]
theorem key_negF (k : FloatKind) {x : Nat} (hx : x < 2 ^ k.format.width) : key k.format (Op.negFloat k x) = -key k.format x := by
  unfold key; rw [rg_neg k hx, ng_neg k hx]
  cases ng k.format x <;> simp [sg]
theorem neg_neg_ (k : FloatKind) (x : Nat) : Op.negFloat k (Op.negFloat k x) = x := by
  unfold Op.negFloat
  rw [Nat.xor_assoc, Nat.xor_self, Nat.xor_zero]
end Go.Proofs.YtpbklllmplimaaaDoor.same
