/- Words of no sign, and operations that are exact. -/
import Derived.Test.YtpbklllmplimaaaDoorFlInt
namespace Go.Proofs.YtpbklllmplimaaaDoor.same
open Go.RowKit Fl Ieee
set_option linter.unusedVariables false

theorem gpos {f : Format} {r : Nat} (h : r < f.infRung) : rg f r = r ∧ ng f r = false := by
  have := f.infRung_lt
  constructor
  · unfold rg; exact Nat.mod_eq_of_lt (by omega)
  · unfold ng; rw [Nat.div_eq_of_lt (by omega)]; rfl
theorem gpos_lt {f : Format} {r : Nat} (h : r < f.infRung) : r < 2 ^ f.width := by
  have := f.infRung_lt
  rw [width_two]; omega
theorem gout {f : Format} {r : Nat} (h : r < f.infRung) : out f false r = r := by
  refine word_inj f (out_lt f false r) (gpos_lt h) ?_ ?_
  · rw [out_ng, (gpos h).2]
  · rw [out_rg, (gpos h).1]; omega
theorem gnum {f : Format} {r : Nat} (h : r < f.infRung) : num f r = true ∧ fin f r = true ∧ key f r = (r : Int) := by
  obtain ⟨a, b⟩ := gpos h
  refine ⟨?_, ?_, ?_⟩
  · rw [num_iff, a]; omega
  · rw [fin_iff, a]; exact h
  · unfold key; rw [a, b]; rfl

/-- how far float64's least place lies below nought; a constant of its own, so that nothing is reckoned out -/
def e64 : Nat := 1074
theorem e64_eq : e64 = 1074 := rfl
attribute [irreducible] e64
theorem dn_D : dn D = e64 := by rw [e64_eq]; unfold dn; rw [D_L]; rfl
theorem mg_at {d c k q e : Nat} (hc : c = q * 2 ^ k) (h1 : 4503599627370496 ≤ c) (h2 : c ≤ 9007199254740992) (he : d + k = e) : mg D (d * 4503599627370496 + c) = q * 2 ^ e := by
  have := mg_kept D d c (by rw [D_B]; omega) (Or.inr (by rw [D_B]; omega))
  rw [D_B] at this
  rw [this, hc, Nat.mul_assoc, ← Nat.pow_add, Nat.add_comm k, he]

/-- a product that is exact -/
theorem mul_exact {x y z : Nat} (hx : x < D.infRung) (hy : y < D.infRung) (hz : z < D.infRung) (h : mg D x * mg D y = 2 ^ e64 * mg D z) : floatBits .mul .f64 x y = some z := by
  obtain ⟨a1, a2⟩ := gpos hx
  obtain ⟨b1, b2⟩ := gpos hy
  obtain ⟨r, e, R⟩ := mul_fin (f := D) (fine .f64) (x := x) (y := y) (by rw [a1]; exact hx) (by rw [b1]; exact hy)
  rw [a1, b1, dn_D] at R
  rw [a2, b2] at e
  have hr : r = z := R.eq_of (Nat.two_pow_pos _) h
  subst hr
  rw [show floatBits .mul .f64 x y = D.mul x y from rfl, e]
  simp [gout hz]
/-- a quotient that is exact -/
theorem div_exact {x y z : Nat} (hx : x < D.infRung) (hy : y < D.infRung) (hy0 : 0 < mg D y) (hz : z < D.infRung) (h : mg D x * 2 ^ e64 = mg D y * mg D z) : floatBits .quo .f64 x y = some z := by
  obtain ⟨a1, a2⟩ := gpos hx
  obtain ⟨b1, b2⟩ := gpos hy
  have hne : y ≠ 0 := by rintro rfl; rw [mg_zero] at hy0; omega
  obtain ⟨r, e, R⟩ := div_fin (f := D) (fine .f64) (x := x) (y := y) (by rw [a1]; exact hx) (by rw [b1]; exact hy) (by rw [b1]; exact hne)
  rw [a1, b1, dn_D] at R
  rw [a2, b2] at e
  have hr : r = z := R.eq_of hy0 h
  subst hr
  rw [show floatBits .quo .f64 x y = D.div x y from rfl, e]
  simp [gout hz]

/-- z is the float64 of no sign of that magnitude -/
def isD (z M : Nat) : Prop := z < D.infRung ∧ mg D z = M
theorem isD.eq {z y M : Nat} (h : isD z M) (k : isD y M) : z = y := mg_inj (h.2.trans k.2.symm)

def big2 : Nat := 1300
theorem big2_eq : big2 = 1300 := rfl
attribute [irreducible] big2
theorem fin_D {r : Nat} (h : mg D r < 2 ^ big2) : r < D.infRung := by
  have h2 : 2 ^ big2 ≤ mg D D.infRung := by
    obtain ⟨q, e2, hq⟩ : ∃ q, D.infRung = q * D.binade + D.binade ∧ q = 2046 := ⟨2046, by rw [D_I, D_B], rfl⟩
    rw [e2, mg_kept D q D.binade (by omega) (Or.inr (Nat.le_refl _)), D_B, show (4503599627370496 : Nat) = 2 ^ 52 from rfl, ← Nat.pow_add]
    exact Nat.pow_le_pow_right (by omega) (by rw [big2_eq]; omega)
  exact mg_lt_iff.1 (Nat.lt_of_lt_of_le h h2)
theorem isD_ex {n j : Nat} (hn : n < 9007199254740992) (hj : j ≤ 1247) : ∃ z, isD z (n * 2 ^ j) := by
  obtain ⟨z, hz⟩ := repr D n j (by rw [D_B]; omega)
  refine ⟨z, fin_D ?_, hz⟩
  rw [hz]
  have a1 : n * 2 ^ j < 2 ^ 53 * 2 ^ j := Nat.mul_lt_mul_of_pos_right (by omega) (Nat.two_pow_pos _)
  rw [← Nat.pow_add] at a1
  exact Nat.lt_of_lt_of_le a1 (Nat.pow_le_pow_right (by omega) (by rw [big2_eq]; omega))
/-- larger exponents, shorter numbers -/
theorem isD_ex' {n j : Nat} (hn : n < 16777216) (hj : j ≤ 1276) : ∃ z, isD z (n * 2 ^ j) := by
  obtain ⟨z, hz⟩ := repr D n j (by rw [D_B]; omega)
  refine ⟨z, fin_D ?_, hz⟩
  rw [hz]
  have a1 : n * 2 ^ j < 2 ^ 24 * 2 ^ j := Nat.mul_lt_mul_of_pos_right (by omega) (Nat.two_pow_pos _)
  rw [← Nat.pow_add] at a1
  exact Nat.lt_of_lt_of_le a1 (Nat.pow_le_pow_right (by omega) (by rw [big2_eq]; omega))

theorem mg_one64 : mg D 4607182418800017408 = 2 ^ e64 := by
  have := mg_at (d := 1022) (c := 4503599627370496) (k := 52) (q := 1) (e := e64) (by decide) (by omega) (by omega) (by rw [e64_eq])
  rw [Nat.one_mul] at this
  exact this
theorem mg_two64 : mg D 4611686018427387904 = 2 * 2 ^ e64 := by
  have := mg_at (d := 1023) (c := 4503599627370496) (k := 51) (q := 2) (e := e64) (by decide) (by omega) (by omega) (by rw [e64_eq])
  exact this
theorem two_isD : isD 4611686018427387904 (2 * 2 ^ e64) := ⟨by rw [D_I]; omega, mg_two64⟩
theorem one_isD : isD 4607182418800017408 (2 ^ e64) := ⟨by rw [D_I]; omega, mg_one64⟩

theorem twice_exact {n j z y : Nat} (hz : isD z (n * 2 ^ j)) (hy : isD y (n * 2 ^ (j + 1))) : floatBits .mul .f64 z 4611686018427387904 = some y := by
  refine mul_exact hz.1 two_isD.1 hy.1 ?_
  rw [hz.2, hy.2, two_isD.2, Nat.pow_succ]
  generalize 2 ^ e64 = T
  generalize 2 ^ j = J
  rw [Nat.mul_comm (n * J), Nat.mul_right_comm 2 T, Nat.mul_comm _ T, Nat.mul_comm 2 (n * J), Nat.mul_assoc n J 2]
theorem half_exact {n j z y : Nat} (hz : isD z (n * 2 ^ (j + 1))) (hy : isD y (n * 2 ^ j)) : floatBits .quo .f64 z 4611686018427387904 = some y := by
  refine div_exact hz.1 two_isD.1 (by rw [two_isD.2]; exact Nat.mul_pos (by omega) (Nat.two_pow_pos _)) hy.1 ?_
  rw [hz.2, hy.2, two_isD.2, Nat.pow_succ]
  generalize 2 ^ e64 = T
  generalize 2 ^ j = J
  rw [← Nat.mul_assoc n J 2, Nat.mul_comm (n * J) 2, Nat.mul_right_comm 2 (n * J) T]
theorem once_exact {z M : Nat} (hz : isD z M) : floatBits .mul .f64 4607182418800017408 z = some z := by
  refine mul_exact one_isD.1 hz.1 hz.1 ?_
  rw [one_isD.2]

/-- a whole number as float64 -/
theorem ofInt64 {n : Nat} (h : n < 9007199254740992) : isD (floatOfInt .f64 (n : Int)) (n * 2 ^ e64) := by
  obtain ⟨r, e, R⟩ := nearest_spec D (fine .f64).p (decide ((n : Int) < 0)) (n : Int).natAbs 0
  obtain ⟨z, hz⟩ := isD_ex h (j := e64) (by rw [e64_eq]; omega)
  have e1 : ((0 : Int) - D.leastPlace).toNat = e64 := by rw [D_L, e64_eq]; rfl
  have e2 : (D.leastPlace - (0 : Int)).toNat = 0 := by rw [D_L]; rfl
  rw [e1, e2, Int.natAbs_natCast] at R
  have hr : r = z := R.eq_of (Nat.two_pow_pos _) (by rw [hz.2, Nat.pow_zero, Nat.one_mul])
  subst hr
  rw [show decide ((n : Int) < 0) = false from by simp] at e
  have e3 : floatOfInt .f64 (n : Int) = out D false r := by
    show D.nearest (decide ((n : Int) < 0)) (n : Int).natAbs 0 = _
    rw [show decide ((n : Int) < 0) = false from by simp]; exact e
  rw [e3, gout hz.1]
  exact hz

/-- a float64 of no sign as a single, where that is exact -/
theorem down_exact {z n j r : Nat} (hz : isD z (n * 2 ^ (sh + j))) (hr : mg S r = n * 2 ^ j) :
    floatToFloatBits .f64 z .f32 = if r < S.infRung then some r else none := by
  obtain ⟨a1, a2⟩ := gpos hz.1
  obtain ⟨m, k, e1, h1⟩ := read_fin D (w := z) (by rw [a1]; exact hz.1)
  rw [a1, hz.2] at h1
  rw [a2] at e1
  obtain ⟨q, hq, hQ⟩ := nearest_spec S (fine .f32).p false m (D.leastPlace + k)
  have e3 : (D.leastPlace + (k : Int) - S.leastPlace).toNat = k - sh := by rw [S_L, D_L, sh_eq]; omega
  have e4 : (S.leastPlace - (D.leastPlace + (k : Int))).toNat = sh - k := by rw [S_L, D_L, sh_eq]; omega
  rw [e3, e4] at hQ
  have hqr : q = r := by
    refine hQ.eq_of (Nat.two_pow_pos _) ?_
    rw [hr]
    refine Nat.eq_of_mul_eq_mul_left (Nat.two_pow_pos sh) ?_
    rcases Nat.le_total sh k with hk | hk
    · have p1 : sh - k = 0 := by omega
      rw [p1, Nat.pow_zero, Nat.one_mul]
      have p2 : 2 ^ sh * (m * 2 ^ (k - sh)) = m * 2 ^ k := by
        rw [Nat.mul_left_comm, ← Nat.pow_add]; congr 2; omega
      rw [p2, h1, Nat.pow_add, Nat.mul_left_comm]
    · have p1 : k - sh = 0 := by omega
      rw [p1, Nat.pow_zero, Nat.mul_one]
      have p2 : 2 ^ sh * m = 2 ^ (sh - k) * (m * 2 ^ k) := by
        rw [Nat.mul_left_comm, ← Nat.pow_add, Nat.mul_comm]; congr 2; omega
      rw [p2, h1, Nat.pow_add, Nat.mul_left_comm n, ← Nat.mul_assoc, ← Nat.mul_assoc, Nat.mul_comm (2 ^ (sh - k)), Nat.mul_assoc, Nat.mul_assoc]
  subst hqr
  unfold floatToFloatBits
  rw [if_neg (by decide), show FloatKind.f64.decode z = _ from e1]
  simp only
  have hw : FloatKind.f32.encode (.number false m (D.leastPlace + ↑k)) = out S false q := hq
  rw [hw]
  by_cases hi : q < S.infRung
  · rw [if_pos hi, gout hi]
    have : (FloatKind.f32.decode q).isInfinity = false := by
      obtain ⟨m2, i2, e2, _⟩ := read_fin S (w := q) (by rw [(gpos hi).1]; exact hi)
      rw [show FloatKind.f32.decode q = S.read q from rfl, e2]; rfl
    rw [this]; rfl
  · rw [if_neg hi]
    have : (FloatKind.f32.decode (out S false q)).isInfinity = true := by
      have e2 := read_inf S (fine .f32).e (w := out S false q) (by rw [out_rg]; omega)
      rw [show FloatKind.f32.decode (out S false q) = S.read (out S false q) from rfl, e2]; rfl
    rw [this]; rfl
/-- and back -/
theorem up_back {z n j r : Nat} (hz : isD z (n * 2 ^ (sh + j))) (hr : mg S r = n * 2 ^ j) (hi : r < S.infRung) : up r = z := by
  obtain ⟨_, u2, u3, u4, _⟩ := up_fin (gnum hi).2.1
  obtain ⟨a1, a2⟩ := gpos hi
  rw [a2] at u3
  rw [a1, hr] at u4
  have hw : up r < 2 ^ D.width := by
    have := (up_fin (gnum hi).2.1).2.2.2.2
    exact this
  refine word_inj D hw (gpos_lt hz.1) ?_ ?_
  · rw [u3, (gpos hz.1).2]
  · rw [(gpos hz.1).1]
    refine mg_inj (f := D) ?_
    rw [u4, hz.2, Nat.mul_assoc, ← Nat.pow_add, Nat.add_comm j]
/-- a single never equals what is too great for it -/
theorem up_ne {z n j r y : Nat} (hz : isD z (n * 2 ^ (sh + j))) (hr : mg S r = n * 2 ^ j) (hi : ¬ r < S.infRung) (hy : num S y = true) : key D (up y) ≠ key D z := by
  rw [(gnum hz.1).2.2]
  cases hf : fin S y with
  | true =>
    obtain ⟨_, u2, u3, u4, _⟩ := up_fin hf
    intro h
    unfold key sg at h
    have h2 : rg D (up y) = z := by split at h <;> omega
    rw [h2, hz.2] at u4
    have h3 : mg S (rg S y) < mg S r := mg_lt (by have := fin_iff.1 hf; omega)
    rw [hr] at h3
    have h4 : mg S (rg S y) * 2 ^ sh < n * 2 ^ j * 2 ^ sh := Nat.mul_lt_mul_of_pos_right h3 (Nat.two_pow_pos _)
    rw [← u4, Nat.mul_assoc, ← Nat.pow_add, Nat.add_comm j] at h4
    omega
  | false =>
    have hri : rg S y = S.infRung := by
      have h1 := num_iff.1 hy
      have h2 : ¬ rg S y < S.infRung := fun h => by rw [fin_iff.2 h] at hf; cases hf
      omega
    rw [(up_inf hri).2, key_inf]
    have := hz.1
    unfold sg; split <;> omega
end Go.Proofs.YtpbklllmplimaaaDoor.same
