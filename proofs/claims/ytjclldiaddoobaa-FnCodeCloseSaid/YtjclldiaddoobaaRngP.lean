/- The ranges that are drawn: their numbers. -/
import Derived.Test.YtjclldiaddoobaaRngC
namespace Go.Proofs.Ytjclldiaddoobaa.rng
open Go.RowKit base Fl same Ieee
set_option linter.unusedVariables false

/-- a word of no sign that is finite -/
theorem posw {r : Nat} (h : r < S.infRung) : rg S r = r ∧ ng S r = false ∧ key S r = r ∧ num S r = true ∧ fin S r = true ∧ r < 2 ^ 32 := by
  have hI := S_I
  have e1 : rg S r = r := by unfold rg; rw [S_W]; exact Nat.mod_eq_of_lt (by omega)
  have e2 : ng S r = false := by unfold ng; rw [S_W]; have : r / 2147483648 = 0 := Nat.div_eq_of_lt (by omega); rw [this]; rfl
  refine ⟨e1, e2, ?_, ?_, ?_, by omega⟩
  · unfold key; rw [e1, e2]; rfl
  · rw [num_iff, e1]; omega
  · rw [fin_iff, e1]; exact h
theorem out_pos {r : Nat} (h : r < S.infRung) : out S false r = r := by
  have h1 : rg S (out S false r) = rg S r := by rw [out_rg, (posw h).1]; omega
  have h2 : ng S (out S false r) = ng S r := by rw [out_ng, (posw h).2.1]
  exact word_inj S (out_lt S false r) (by have := (posw h).2.2.2.2.2; exact this) h2 h1
/-- twice a magnitude, four times .. -/
theorem mg_scale (f : Format) (r j : Nat) : ∃ s, mg f s = mg f r * 2 ^ j := by
  have hB := binade_pos f
  by_cases h : r < f.binade
  · have e : mg f r = r := by unfold mg; rw [if_pos h]
    rw [e]; exact repr f r j (by omega)
  · have e : mg f r = (f.binade + r % f.binade) * 2 ^ (r / f.binade - 1) := by unfold mg; rw [if_neg h]
    rw [e, Nat.mul_assoc, ← Nat.pow_add]
    exact repr f _ _ (by have := Nat.mod_lt r hB; omega)
theorem pw (m : Nat) : ∃ s, mg S s = 2 ^ m := by
  obtain ⟨s, hs⟩ := repr S 1 m (by rw [S_B]; omega)
  exact ⟨s, by rw [hs, Nat.one_mul]⟩

/-- the least of the ranges' ends: 2 ^ -10 -/
def lo : Nat := 981467136
theorem mg_lo : mg S lo = 2 ^ 139 := by
  have := mg_kept S 116 8388608 (by rw [S_B]; omega) (Or.inr (by rw [S_B]; omega))
  rw [S_B] at this
  rw [show lo = 116 * 8388608 + 8388608 from rfl, this, show (8388608 : Nat) = 2 ^ 23 from rfl, ← Nat.pow_add]
theorem fin_of_le {r m : Nat} (h : mg S r ≤ 2 ^ m) (hm : m ≤ 200) : r < S.infRung := by
  have e : mg S 1677721600 = 2 ^ 222 := by
    have := mg_kept S 199 8388608 (by rw [S_B]; omega) (Or.inr (by rw [S_B]; omega))
    rw [S_B] at this
    rw [show (1677721600 : Nat) = 199 * 8388608 + 8388608 from rfl, this, show (8388608 : Nat) = 2 ^ 23 from rfl, ← Nat.pow_add]
  have h1 : mg S r ≤ mg S 1677721600 := by rw [e]; exact Nat.le_trans h (Nat.pow_le_pow_right (by omega) (by omega))
  have := mg_le_iff.1 h1
  rw [S_I]; omega
theorem mg_pos {r : Nat} (h : 0 < r) : 0 < mg S r := by have := mg_lt (f := S) h; omega

theorem ofInt_pos {a : Nat} (h : a ≤ 32767) : ∃ r, floatOfInt .f32 (a : Int) = r ∧ mg S r = a * 2 ^ 149 ∧ r < S.infRung := by
  obtain ⟨r, e, m, l⟩ := ofInt_spec (a : Int) (by omega)
  rw [show decide ((a : Int) < 0) = false from by simp, out_pos l] at e
  exact ⟨r, e, by simpa using m, l⟩

/-- a product of two words of no sign -/
theorem mul_pos_ {x y : Nat} (hx : x < S.infRung) (hy : y < S.infRung) : ∃ r, floatBits .mul .f32 x y = some (out S false r) ∧ Rnd S (mg S x * mg S y) (2 ^ 149) r := by
  obtain ⟨a1, a2, _⟩ := posw hx
  obtain ⟨b1, b2, _⟩ := posw hy
  obtain ⟨r, e, R⟩ := mul_fin (f := S) (fine .f32) (x := x) (y := y) (by rw [a1]; exact hx) (by rw [b1]; exact hy)
  rw [a1, b1, dn_S] at R
  rw [a2, b2] at e
  exact ⟨r, e, R⟩
theorem div_pos_ {x y : Nat} (hx : x < S.infRung) (hy : y < S.infRung) (h0 : 0 < y) : ∃ r, floatBits .quo .f32 x y = some (out S false r) ∧ Rnd S (mg S x * 2 ^ 149) (mg S y) r := by
  obtain ⟨a1, a2, _⟩ := posw hx
  obtain ⟨b1, b2, _⟩ := posw hy
  obtain ⟨r, e, R⟩ := div_fin (f := S) (fine .f32) (x := x) (y := y) (by rw [a1]; exact hx) (by rw [b1]; exact hy) (by rw [b1]; omega)
  rw [a1, b1, dn_S] at R
  rw [a2, b2] at e
  exact ⟨r, e, R⟩

/-- the first range's end -/
theorem first_full {a b : Nat} (a0 : 1 ≤ a) (a1 : a ≤ 20) (b0 : 1 ≤ b) (b1 : b ≤ 1000) : ∃ r, floatBits .quo .f32 (floatOfInt .f32 (a : Int)) (floatOfInt .f32 (b : Int)) = some r ∧ lo ≤ r ∧ mg S r ≤ 2 ^ 154 ∧ r < S.infRung := by
  obtain ⟨x, ex, mx, lx⟩ := ofInt_pos (a := a) (by omega)
  obtain ⟨y, ey, my, ly⟩ := ofInt_pos (a := b) (by omega)
  rw [ex, ey]
  have hy0 : 0 < y := by
    rcases Nat.eq_zero_or_pos y with h | h
    · subst h; rw [mg_zero] at my; have := Nat.mul_pos b0 (Nat.two_pow_pos 149); omega
    · exact h
  obtain ⟨r, e, R⟩ := div_pos_ lx ly hy0
  rw [mx, my] at R
  have hD : 0 < b * 2 ^ 149 := Nat.mul_pos b0 (Nat.two_pow_pos _)
  have h1 : lo ≤ r := R.ge_of hD (by
    rw [mg_lo, Nat.mul_assoc, Nat.mul_assoc, Nat.mul_comm (2 ^ 149) (2 ^ 139)]
    rw [show (2 : Nat) ^ 149 * 2 ^ 149 = 2 ^ 10 * (2 ^ 139 * 2 ^ 149) from by rw [← Nat.mul_assoc, ← Nat.pow_add]]
    rw [← Nat.mul_assoc a]
    exact Nat.mul_le_mul_right _ (by omega))
  obtain ⟨s, hs⟩ := pw 154
  have h2 : r ≤ s := R.le_of hD (by
    rw [hs, Nat.mul_assoc, Nat.mul_assoc]
    rw [show (2 : Nat) ^ 149 * 2 ^ 154 = 2 ^ 5 * (2 ^ 149 * 2 ^ 149) from by rw [← Nat.pow_add]]
    rw [← Nat.mul_assoc b]
    exact Nat.mul_le_mul_right _ (by omega))
  have h3 : mg S r ≤ 2 ^ 154 := by rw [← hs]; exact mg_le h2
  have h4 := fin_of_le h3 (by omega)
  exact ⟨r, by rw [e, out_pos h4], h1, h3, h4⟩

/-- the next range's end -/
theorem next_full {x c m : Nat} (hx : lo ≤ x) (hm : mg S x ≤ 2 ^ m) (hm' : m ≤ 190) (c0 : 2 ≤ c) (c1 : c ≤ 16) : ∃ r, floatBits .mul .f32 x (floatOfInt .f32 (c : Int)) = some r ∧ x < r ∧ mg S r ≤ 2 ^ (m + 4) ∧ r < S.infRung := by
  obtain ⟨y, ey, my, ly⟩ := ofInt_pos (a := c) (by omega)
  rw [ey]
  obtain ⟨r, e, R⟩ := mul_pos_ (fin_of_le hm (by omega)) ly
  rw [my] at R
  have hD := Nat.two_pow_pos 149
  have hx0 : 0 < x := by have : 0 < lo := by decide
                         omega
  have h1 : x + 1 ≤ r := R.ge_of hD (by
    have h2 : mg S (x + 1) ≤ 2 * mg S x := by
      obtain ⟨s, hs⟩ := mg_scale S x 1
      have : x < s := by rw [← mg_lt_iff (f := S), hs]; have := mg_pos hx0; omega
      have := mg_le (f := S) (show x + 1 ≤ s by omega)
      rw [hs] at this; omega
    rw [← Nat.mul_assoc, Nat.mul_comm (2 ^ 149)]
    refine Nat.mul_le_mul_right _ (Nat.le_trans h2 ?_)
    rw [Nat.mul_comm]; exact Nat.mul_le_mul_left _ c0)
  obtain ⟨s, hs⟩ := pw (m + 4)
  have h2 : r ≤ s := R.le_of hD (by
    rw [hs, ← Nat.mul_assoc, Nat.mul_comm (2 ^ 149)]
    refine Nat.mul_le_mul_right _ ?_
    rw [Nat.pow_add]
    exact Nat.mul_le_mul hm (by omega))
  have h3 : mg S r ≤ 2 ^ (m + 4) := by rw [← hs]; exact mg_le h2
  have h4 := fin_of_le h3 (by omega)
  exact ⟨r, by rw [e, out_pos h4], h1, h3, h4⟩

theorem mg_two : mg S 1073741824 = 2 * 2 ^ 149 := by
  have := mg_kept S 127 8388608 (by rw [S_B]; omega) (Or.inr (by rw [S_B]; omega))
  rw [S_B] at this
  rw [show (1073741824 : Nat) = 127 * 8388608 + 8388608 from rfl, this, show (8388608 : Nat) = 2 ^ 23 from rfl, ← Nat.pow_add]
theorem mg_three : mg S 1077936128 = 3 * 2 ^ 149 := by
  have := mg_kept S 127 12582912 (by rw [S_B]; omega) (Or.inr (by rw [S_B]; omega))
  rw [S_B] at this
  rw [show (1077936128 : Nat) = 127 * 8388608 + 12582912 from rfl, this, show (12582912 : Nat) = 3 * 2 ^ 22 from rfl, Nat.mul_assoc, ← Nat.pow_add]
theorem mg_four : mg S 1082130432 = 4 * 2 ^ 149 := by
  have := mg_kept S 128 8388608 (by rw [S_B]; omega) (Or.inr (by rw [S_B]; omega))
  rw [S_B] at this
  rw [show (1082130432 : Nat) = 128 * 8388608 + 8388608 from rfl, this, show (8388608 : Nat) = 2 ^ 23 from rfl, ← Nat.pow_add]

/-- half a range's end -/
theorem half_ {x : Nat} (hx : x < S.infRung) : ∃ r, floatBits .quo .f32 x 1073741824 = some r ∧ r ≤ x := by
  obtain ⟨r, e, R⟩ := div_pos_ hx (y := 1073741824) (by rw [S_I]; omega) (by omega)
  rw [mg_two] at R
  have h1 : r ≤ x := R.le_of (by omega) (by
    rw [Nat.mul_comm (mg S x), Nat.mul_assoc]; omega)
  exact ⟨r, by rw [e, out_pos (by omega)], h1⟩
/-- three quarters of a range's end -/
theorem quarters {x m : Nat} (hx : lo ≤ x) (hm : mg S x ≤ 2 ^ m) (hm' : m ≤ 190) : ∃ t r, floatBits .mul .f32 x 1077936128 = some t ∧ floatBits .quo .f32 t 1082130432 = some r ∧ 0 < r ∧ r ≤ x := by
  have hxI := fin_of_le hm (by omega)
  obtain ⟨t, e, R⟩ := mul_pos_ hxI (y := 1077936128) (by rw [S_I]; omega)
  rw [mg_three] at R
  have hD := Nat.two_pow_pos 149
  obtain ⟨s, hs⟩ := mg_scale S x 2
  have h1 : t ≤ s := R.le_of hD (by
    rw [hs, ← Nat.mul_assoc, Nat.mul_comm (2 ^ 149)]
    refine Nat.mul_le_mul_right _ (Nat.mul_le_mul_left _ (by omega)))
  have hx0 : 0 < x := by have : 0 < lo := by decide
                         omega
  have h2 : x ≤ t := R.ge_of hD (by
    rw [← Nat.mul_assoc, Nat.mul_comm (2 ^ 149)]
    refine Nat.mul_le_mul_right _ ?_
    omega)
  have ht : mg S t ≤ 2 ^ (m + 2) := by
    have := mg_le (f := S) h1
    rw [hs] at this
    exact Nat.le_trans this (by rw [Nat.pow_add]; exact Nat.mul_le_mul_right _ hm)
  have htI := fin_of_le ht (by omega)
  obtain ⟨r, e2, R2⟩ := div_pos_ htI (y := 1082130432) (by rw [S_I]; omega) (by omega)
  rw [mg_four] at R2
  have h3 : r ≤ x := R2.le_of (by omega) (by
    have := mg_le (f := S) h1
    rw [hs] at this
    rw [Nat.mul_comm 4, Nat.mul_assoc, Nat.mul_comm (mg S t)]
    exact Nat.mul_le_mul_left _ (by omega))
  have h4 : 1 ≤ r := R2.ge_of (by omega) (by
    have h5 : mg S 1 = 1 := by unfold mg; rw [if_pos (by rw [S_B]; omega)]
    have h6 : mg S lo ≤ mg S t := mg_le (by omega)
    rw [mg_lo] at h6
    rw [h5, Nat.mul_one]
    exact Nat.mul_le_mul_right _ (Nat.le_trans (by decide) h6))
  exact ⟨t, r, by rw [e, out_pos htI], by rw [e2, out_pos (by omega)], by omega, h3⟩

theorem okA_of {f d u : Nat} (hf : f < S.infRung) (h1 : d < u) (h2 : u ≤ f) (h3 : lo ≤ f) : okA f d u = true := by
  obtain ⟨_, _, kf, nf, ff, _⟩ := posw hf
  obtain ⟨_, _, kd, nd, _, _⟩ := posw (show d < S.infRung by omega)
  obtain ⟨_, _, ku, nu, _, _⟩ := posw (show u < S.infRung by omega)
  obtain ⟨_, _, km, nm, _, _⟩ := posw (show 228737632 < S.infRung by rw [S_I]; omega)
  unfold okA
  simp only [Bool.and_eq_true]
  refine ⟨⟨⟨⟨geB_iff.2 ⟨nd, num_zero _, ?_⟩, gtB_iff.2 ⟨nu, nd, ?_⟩⟩, geB_iff.2 ⟨nf, nu, ?_⟩⟩, geB_iff.2 ⟨nf, nm, ?_⟩⟩, ff⟩
  · rw [key_zero, kd]; omega
  · rw [ku, kd]; omega
  · rw [ku, kf]; omega
  · rw [km, kf]; unfold lo at h3; omega
theorem okP_of {f d f' u' : Nat} (hf : f < S.infRung) (h1 : f' < f) (h2 : d ≤ u') (hu : u' < S.infRung) : okP f d f' u' = true := by
  obtain ⟨_, _, kf, nf, _, _⟩ := posw hf
  obtain ⟨_, _, kf', nf', _, _⟩ := posw (show f' < S.infRung by omega)
  obtain ⟨_, _, kd, nd, _, _⟩ := posw (show d < S.infRung by omega)
  obtain ⟨_, _, ku, nu, _, _⟩ := posw hu
  unfold okP
  simp only [Bool.and_eq_true]
  exact ⟨gtB_iff.2 ⟨nf, nf', by rw [kf, kf']; omega⟩, leB_iff.2 ⟨nd, nu, by rw [kd, ku]; omega⟩⟩
theorem geB_pos {x y : Nat} (hx : x < S.infRung) (hy : y < S.infRung) : geB x y = decide (y ≤ x) := by
  obtain ⟨_, _, kx, nx, _, _⟩ := posw hx
  obtain ⟨_, _, ky, ny, _, _⟩ := posw hy
  cases h : geB x y with
  | true =>
    have := (geB_iff.1 h).2.2
    rw [kx, ky] at this
    exact (decide_eq_true (by omega)).symm
  | false =>
    refine (decide_eq_false fun hle => ?_).symm
    have := geB_iff.2 ⟨nx, ny, by rw [kx, ky]; omega⟩
    rw [h] at this; cases this
end Go.Proofs.Ytjclldiaddoobaa.rng
