/- The mantissa and the exponent of a single: the plain law. -/
import Derived.Test.YtpbklllmplimaaaDoorPosW
import Derived.Test.YtpbklllmplimaaaDoorNeg
namespace Go.Proofs.YtpbklllmplimaaaDoor.same
open Go.RowKit Fl Ieee
set_option linter.unusedVariables false

theorem odd_unique {M N i j : Nat} (hM : M % 2 = 1) (hN : N % 2 = 1) (h : M * 2 ^ i = N * 2 ^ j) : M = N ∧ i = j := by
  rcases Nat.lt_trichotomy i j with hij | hij | hij
  · exfalso
    obtain ⟨k, rfl⟩ : ∃ k, j = i + (k + 1) := ⟨j - i - 1, by omega⟩
    rw [Nat.pow_add, ← Nat.mul_assoc, Nat.mul_right_comm] at h
    have := Nat.eq_of_mul_eq_mul_right (Nat.two_pow_pos i) h
    rw [Nat.pow_succ, ← Nat.mul_assoc] at this
    omega
  · subst hij
    exact ⟨Nat.eq_of_mul_eq_mul_right (Nat.two_pow_pos i) h, rfl⟩
  · exfalso
    obtain ⟨k, rfl⟩ : ∃ k, i = j + (k + 1) := ⟨i - j - 1, by omega⟩
    rw [Nat.pow_add, ← Nat.mul_assoc, Nat.mul_right_comm] at h
    have := Nat.eq_of_mul_eq_mul_right (Nat.two_pow_pos j) h
    rw [Nat.pow_succ, ← Nat.mul_assoc] at this
    omega

/-- what SplitSingle tells of a single -/
inductive Split (x : Nat) : Int → Int → Bool → Prop
  | no (h : fin S x = false) : Split x 0 0 false
  | zero (h : fin S x = true) (h0 : rg S x = 0) : Split x 0 0 true
  | yes (h : fin S x = true) (h0 : rg S x ≠ 0) (M j : Nat) (hM : M % 2 = 1) (hj : M * 2 ^ j = mg S (rg S x) * 2 ^ 31) : Split x M ((j : Int) - 180) true
theorem Split.unique {x : Nat} {m e m' e' : Int} {b b' : Bool} (h : Split x m e b) (h' : Split x m' e' b') : m = m' ∧ e = e' ∧ b = b' := by
  cases h with
  | no h =>
    cases h' with
    | no _ => exact ⟨rfl, rfl, rfl⟩
    | zero h2 _ => rw [h] at h2; cases h2
    | yes h2 _ => rw [h] at h2; cases h2
  | zero h h0 =>
    cases h' with
    | no h2 => rw [h] at h2; cases h2
    | zero _ _ => exact ⟨rfl, rfl, rfl⟩
    | yes _ h2 => exact absurd h0 h2
  | yes h h0 M j hM hj =>
    cases h' with
    | no h2 => rw [h] at h2; cases h2
    | zero _ h2 => exact absurd h2 h0
    | yes _ _ N i hN hi =>
      obtain ⟨rfl, rfl⟩ := odd_unique hM hN (hj.trans hi.symm)
      exact ⟨rfl, rfl, rfl⟩
/-- .. and some draws -/
def SplitE (x : Nat) (w : World) (en : Ending) (w' : World) : Prop := ∃ (m e : Int) (ok : Bool), en = .returned (.tuple #[.int .i64 m, .int .i64 e, .bool ok]) ∧ Split x m e ok ∧ ∃ p, w' = w.drewN p

/-- a single's magnitude in its own digits -/
theorem canon {x : Nat} (h : fin S x = true) (h0 : rg S x ≠ 0) : ∃ n d, mg S (rg S x) = n * 2 ^ d ∧ 1 ≤ n ∧ n < 16777216 ∧ d ≤ 253 ∧ (d = 0 ∨ 8388608 ≤ n) := by
  have hI := fin_iff.1 h
  rw [S_I] at hI
  generalize rg S x = r at *
  by_cases hr : r < 8388608
  · exact ⟨r, 0, by unfold mg; rw [S_B, if_pos hr, Nat.pow_zero, Nat.mul_one], by omega, by omega, by omega, Or.inl rfl⟩
  · exact ⟨8388608 + r % 8388608, r / 8388608 - 1, by unfold mg; rw [S_B, if_neg hr], by omega, by omega, by omega, Or.inr (by omega)⟩

/-- the float64 of a single, without its sign -/
def absW (x : Nat) : Nat := up x % 9223372036854775808
theorem absW_rg (x : Nat) : absW x = rg D (up x) := by unfold absW rg; rw [D_W]
theorem absW_isD {x : Nat} (h : fin S x = true) : isD (absW x) (mg S (rg S x) * 2 ^ sh) := by
  obtain ⟨_, h2, _, h4, _⟩ := up_fin h
  rw [absW_rg]
  exact ⟨fin_iff.1 h2, h4⟩
theorem absW_pos {x : Nat} (h : fin S x = true) (hn : ng S x = false) : up x = absW x := by
  obtain ⟨_, h2, h3, h4, h5⟩ := up_fin h
  have hI := (absW_isD h).1
  refine word_inj D h5 (gpos_lt hI) ?_ ?_
  · rw [h3, hn, (gpos hI).2]
  · rw [(gpos hI).1, absW_rg]
theorem absW_neg {x : Nat} (h : fin S x = true) (hn : ng S x = true) : Op.negFloat .f64 (up x) = absW x := by
  obtain ⟨_, h2, h3, h4, h5⟩ := up_fin h
  have hI := (absW_isD h).1
  have h5' : up x < 2 ^ FloatKind.f64.format.width := h5
  refine word_inj D (negFloat_lt .f64 h5') (gpos_lt hI) ?_ ?_
  · rw [show ng D (Op.negFloat .f64 (up x)) = !ng D (up x) from ng_neg .f64 h5', h3, hn, (gpos hI).2]; rfl
  · rw [show rg D (Op.negFloat .f64 (up x)) = rg D (up x) from rg_neg .f64 h5', (gpos hI).1, absW_rg]

theorem mg_2_24 : mg D 4715268809856909312 = 2 ^ 24 * 2 ^ e64 := by
  have := mg_at (d := 1046) (c := 4503599627370496) (k := 28) (q := 16777216) (e := e64) (by decide) (by omega) (by omega) (by rw [e64_eq])
  exact this
theorem mg_2_23 : mg D 4710765210229538816 = 2 ^ 23 * 2 ^ e64 := by
  have := mg_at (d := 1045) (c := 4503599627370496) (k := 29) (q := 8388608) (e := e64) (by decide) (by omega) (by omega) (by rw [e64_eq])
  exact this
theorem pow_lt_of {a b : Nat} (h : 2 ^ a < 2 ^ b) : a < b := by
  rcases Nat.lt_or_ge a b with h' | h'
  · exact h'
  · have := Nat.pow_le_pow_right (show 0 < 2 by omega) h'; omega
/-- not below 2 ^ 24 -/
theorem ge24 {z n y : Nat} (hz : isD z (n * 2 ^ y)) (hn : n < 16777216) (h : 4715268809856909312 ≤ z) : e64 < y := by
  rw [← mg_le_iff (f := D), mg_2_24, hz.2] at h
  have h2 : n * 2 ^ y < 2 ^ 24 * 2 ^ y := Nat.mul_lt_mul_of_pos_right (by omega) (Nat.two_pow_pos _)
  exact pow_lt_of (Nat.lt_of_mul_lt_mul_left (Nat.lt_of_le_of_lt h h2))
theorem lt24 {z n y : Nat} (hz : isD z (n * 2 ^ y)) (hn : 8388608 ≤ n) (h : z < 4715268809856909312) : y ≤ e64 := by
  rw [← mg_lt_iff (f := D), mg_2_24, hz.2] at h
  have h2 : 2 ^ 23 * 2 ^ y ≤ n * 2 ^ y := Nat.mul_le_mul_right _ (by omega)
  have h3 : 2 ^ 23 * 2 ^ y < 2 ^ 24 * 2 ^ e64 := Nat.lt_of_le_of_lt h2 h
  rw [← Nat.pow_add, ← Nat.pow_add] at h3
  have := pow_lt_of h3
  omega
theorem ge23 {z n y : Nat} (hz : isD z (n * 2 ^ y)) (hn : n < 16777216) (h : 4710765210229538816 ≤ z) : e64 ≤ y := by
  rw [← mg_le_iff (f := D), mg_2_23, hz.2] at h
  have h2 : n * 2 ^ y < 2 ^ 24 * 2 ^ y := Nat.mul_lt_mul_of_pos_right (by omega) (Nat.two_pow_pos _)
  have h3 := Nat.lt_of_le_of_lt h h2
  rw [← Nat.pow_add, ← Nat.pow_add] at h3
  have := pow_lt_of h3
  omega
theorem lt23 {z n : Nat} (hz : isD z (n * 2 ^ e64)) (h : z < 4710765210229538816) : n < 8388608 := by
  rw [← mg_lt_iff (f := D), mg_2_23, hz.2] at h
  exact Nat.lt_of_mul_lt_mul_right h

/-- a whole number's float64, back -/
theorem toInt_whole {z n : Nat} (hz : isD z (n * 2 ^ e64)) (hn : n < 16777216) : floatToIntVal .f64 z .i64 = some (n : Int) := by
  have e := toInt_fin (f := D) (fine .f64) (x := z) (by rw [(gpos hz.1).1]; exact hz.1)
  rw [(gpos hz.1).1, (gpos hz.1).2, dn_D, hz.2, Nat.mul_div_cancel _ (Nat.two_pow_pos _)] at e
  unfold floatToIntVal
  rw [show FloatKind.f64.decode z = D.read z from rfl, e]
  simp only [sg, Bool.false_eq_true, if_false]
  rw [if_pos ?_]
  rw [show IntKind.i64.min = -9223372036854775808 from by decide, show IntKind.i64.max = 9223372036854775807 from by decide]
  omega

/-- bounds -/
theorem split_bounds {x M j : Nat} (h : fin S x = true) (h0 : rg S x ≠ 0) (hM : M % 2 = 1) (hj : M * 2 ^ j = mg S (rg S x) * 2 ^ 31) : M ≤ 16777215 ∧ 31 ≤ j ∧ j ≤ 307 := by
  obtain ⟨n, d, e, h1, h2, h3, h4⟩ := canon h h0
  rw [e, Nat.mul_assoc, ← Nat.pow_add] at hj
  have hjd : d + 31 ≤ j := by
    rcases Nat.lt_or_ge j (d + 31) with hlt | hge
    · exfalso
      obtain ⟨k, hk⟩ : ∃ k, d + 31 = j + (k + 1) := ⟨d + 31 - j - 1, by omega⟩
      rw [hk, Nat.pow_add, ← Nat.mul_assoc, Nat.mul_right_comm] at hj
      have := Nat.eq_of_mul_eq_mul_right (Nat.two_pow_pos j) hj
      rw [Nat.pow_succ, ← Nat.mul_assoc] at this
      omega
    · exact hge
  obtain ⟨k, rfl⟩ : ∃ k, j = k + (d + 31) := ⟨j - (d + 31), by omega⟩
  rw [Nat.pow_add, ← Nat.mul_assoc] at hj
  have h5 := Nat.eq_of_mul_eq_mul_right (Nat.two_pow_pos _) hj
  have h6 : 0 < 2 ^ k := Nat.two_pow_pos k
  have h7 : M ≤ n := by rw [← h5]; exact Nat.le_mul_of_pos_right _ h6
  have h8 : 2 ^ k ≤ n := by rw [← h5]; exact Nat.le_mul_of_pos_left _ (by omega)
  have h9 : k < 24 := pow_lt_of (Nat.lt_of_le_of_lt h8 (by omega))
  exact ⟨by omega, by omega, by omega⟩
end Go.Proofs.YtpbklllmplimaaaDoor.same
