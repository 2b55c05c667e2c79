/- From a single to a whole number and back; the code of a reading and the value of a code. -/
import Derived.Test.YtpbklllmplimaaaDoorFlRes
namespace Go.Proofs.YtpbklllmplimaaaDoor.same
open Go.RowKit Fl Ieee
set_option linter.unusedVariables false

theorem cut_zero (s : Bool) (n d : Nat) : Toward.zero.cut s n d = n / 2 ^ d := by
  unfold Toward.cut
  simp only [Bool.toNat_false, Nat.add_zero, Nat.shiftLeft_eq, Nat.one_mul]
  by_cases h : d ≤ n.log2 + 2
  · rw [Nat.min_eq_left h]
  · have h1 : n < 2 ^ (n.log2 + 2) := Nat.lt_of_lt_of_le Nat.lt_log2_self (Nat.pow_le_pow_right (by omega) (by omega))
    have h2 : 2 ^ (n.log2 + 2) ≤ 2 ^ d := Nat.pow_le_pow_right (by omega) (by omega)
    rw [Nat.min_eq_right (by omega), Nat.div_eq_of_lt h1, Nat.div_eq_of_lt (by omega)]

theorem toInt_fin {f : Format} (F : Fine f) {x : Nat} (hx : rg f x < f.infRung) : (f.read x).toInt .zero = some (sg (ng f x) (mg f (rg f x) / 2 ^ dn f)) := by
  obtain ⟨m, k, e, h⟩ := read_fin f hx
  rw [e]
  unfold Datum.toInt Datum.integral
  simp only [cut_zero, signed_eq, Nat.pow_zero, Nat.mul_one, Nat.shiftLeft_eq]
  congr 2
  have hl := F.l
  rw [← h]
  have hd : (dn f : Int) = -f.leastPlace := by unfold dn; omega
  by_cases hk : dn f ≤ k
  · have e1 : (f.leastPlace + (k : Int)).toNat = k - dn f := by omega
    have e2 : (-(f.leastPlace + (k : Int))).toNat = 0 := by omega
    rw [e1, e2, Nat.pow_zero, Nat.div_one]
    have e3 : m * 2 ^ k = m * 2 ^ (k - dn f) * 2 ^ dn f := by rw [Nat.mul_assoc, ← Nat.pow_add]; congr 2; omega
    rw [e3, Nat.mul_div_cancel _ (Nat.two_pow_pos _)]
  · have e1 : (f.leastPlace + (k : Int)).toNat = 0 := by omega
    have e2 : (-(f.leastPlace + (k : Int))).toNat = dn f - k := by omega
    rw [e1, e2, Nat.pow_zero, Nat.mul_one]
    have e3 : 2 ^ dn f = 2 ^ (dn f - k) * 2 ^ k := by rw [← Nat.pow_add]; congr 1; omega
    rw [e3, Nat.mul_div_mul_right _ _ (Nat.two_pow_pos _)]

theorem dn_S : dn S = 149 := by unfold dn; rw [S_L]; rfl

/-- a small whole number as a single -/
theorem ofInt_spec (n : Int) (h : n.natAbs ≤ 32767) : ∃ r, floatOfInt .f32 n = out S (decide (n < 0)) r ∧ mg S r = n.natAbs * 2 ^ 149 ∧ r < S.infRung := by
  obtain ⟨r, e, R⟩ := nearest_spec S (fine .f32).p (decide (n < 0)) n.natAbs 0
  obtain ⟨r', hr'⟩ := repr S n.natAbs 149 (by rw [S_B]; omega)
  have e1 : ((0 : Int) - S.leastPlace).toNat = 149 := by rw [S_L]; rfl
  have e2 : (S.leastPlace - (0 : Int)).toNat = 0 := by rw [S_L]; rfl
  rw [e1, e2] at R
  have hr : r = r' := R.eq_of (Nat.two_pow_pos _) (by rw [hr', Nat.pow_zero, Nat.one_mul])
  subst hr
  refine ⟨r, e, hr', ?_⟩
  have hK : mg S 1191181824 = 32767 * 2 ^ 149 := by
    have := mg_kept S 140 16776704 (by rw [S_B]; omega) (Or.inr (by rw [S_B]; omega))
    rw [S_B] at this
    rw [show (1191181824 : Nat) = 140 * 8388608 + 16776704 from rfl, this, show (16776704 : Nat) = 32767 * 2 ^ 9 from rfl, Nat.mul_assoc, ← Nat.pow_add]
  have hle : r ≤ 1191181824 := by
    rw [← mg_le_iff (f := S), hK, hr']; exact Nat.mul_le_mul_right _ h
  rw [S_I]; omega

theorem mg_K : mg S 1191181824 = 32767 * 2 ^ 149 := by
  have := mg_kept S 140 16776704 (by rw [S_B]; omega) (Or.inr (by rw [S_B]; omega))
  rw [S_B] at this
  rw [show (1191181824 : Nat) = 140 * 8388608 + 16776704 from rfl, this, show (16776704 : Nat) = 32767 * 2 ^ 9 from rfl, Nat.mul_assoc, ← Nat.pow_add]
theorem rg_K : rg S 1191181824 = 1191181824 := by unfold rg; rw [S_W]
theorem ng_K : ng S 1191181824 = false := by unfold ng; rw [S_W]; decide
theorem mg_one32 : mg S 1065353216 = 2 ^ 149 := by
  have := mg_kept S 126 8388608 (by rw [S_B]; omega) (Or.inr (by rw [S_B]; omega))
  rw [S_B] at this
  rw [show (1065353216 : Nat) = 126 * 8388608 + 8388608 from rfl, this, show (8388608 : Nat) = 2 ^ 23 from rfl, ← Nat.pow_add]
theorem rg_lt_I {r : Nat} (h : r ≤ 1191181824) : r < S.infRung := by rw [S_I]; omega

/-- the code of a reading, from the reading's rung and the range's -/
def CodeR (x f r r2 : Nat) : Prop := Rnd S (mg S (rg S x) * 2 ^ 149) (mg S (rg S f)) r ∧ Rnd S (mg S r * (32767 * 2 ^ 149)) (2 ^ 149) r2 ∧ r ≤ 1065353216 ∧ r2 ≤ 1191181824
def codeQ (x f : Nat) : Nat := (floatBits .quo .f32 x f).getD 0
def codeP (x f : Nat) : Nat := (floatBits .mul .f32 (codeQ x f) 1191181824).getD 0
def codeF (x f : Nat) : Int := (floatToIntVal .f32 (codeP x f) .i64).getD 0

/-- a reading that the range holds -/
structure Held (x f : Nat) : Prop where
  le : rg S x ≤ rg S f
  lt : rg S f < S.infRung
  ne : rg S f ≠ 0
  pos : ng S f = false

theorem code_spec {x f : Nat} (h : Held x f) : ∃ r r2, CodeR x f r r2 ∧ floatBits .quo .f32 x f = some (codeQ x f) ∧ floatBits .mul .f32 (codeQ x f) 1191181824 = some (codeP x f) ∧
    floatToIntVal .f32 (codeP x f) .i64 = some (codeF x f) ∧ codeF x f = sg (ng S x) (mg S r2 / 2 ^ 149) ∧ mg S r2 / 2 ^ 149 ≤ 32767 := by
  obtain ⟨r, e1, R1⟩ := div_fin (f := S) (fine .f32) (x := x) (y := f) (by have := h.le; have := h.lt; omega) h.lt h.ne
  rw [dn_S] at R1
  have hpos : 0 < mg S (rg S f) := by have := mg_lt (f := S) (show 0 < rg S f by have := h.ne; omega); omega
  have hr : r ≤ 1065353216 := by
    refine R1.le_of hpos ?_
    rw [mg_one32]; exact Nat.mul_le_mul_right _ (mg_le h.le)
  have hmin : min r S.infRung = r := Nat.min_eq_left (by rw [S_I]; omega)
  have q1 : codeQ x f = out S (ng S x ^^ ng S f) r := by unfold codeQ; rw [show floatBits .quo .f32 x f = S.div x f from rfl, e1]; rfl
  have hqr : rg S (codeQ x f) = r := by rw [q1, out_rg, hmin]
  have hqn : ng S (codeQ x f) = ng S x := by rw [q1, out_ng, h.pos, Bool.xor_false]
  obtain ⟨r2, e2, R2⟩ := mul_fin (f := S) (fine .f32) (x := codeQ x f) (y := 1191181824) (by rw [hqr]; exact rg_lt_I (by omega)) (by rw [rg_K]; exact rg_lt_I (Nat.le_refl _))
  rw [hqr, rg_K, mg_K, dn_S] at R2
  have hr2 : r2 ≤ 1191181824 := by
    refine R2.le_of (Nat.two_pow_pos _) ?_
    rw [mg_K]
    have : mg S r ≤ 2 ^ 149 := by rw [← mg_one32]; exact mg_le hr
    exact Nat.mul_le_mul_right _ this
  have hmin2 : min r2 S.infRung = r2 := Nat.min_eq_left (by rw [S_I]; omega)
  have p1 : codeP x f = out S (ng S (codeQ x f) ^^ ng S 1191181824) r2 := by unfold codeP; rw [show floatBits .mul .f32 (codeQ x f) 1191181824 = S.mul (codeQ x f) 1191181824 from rfl, e2]; rfl
  have hpr : rg S (codeP x f) = r2 := by rw [p1, out_rg, hmin2]
  have hpn : ng S (codeP x f) = ng S x := by rw [p1, out_ng, hqn, ng_K, Bool.xor_false]
  have e3 := toInt_fin (f := S) (fine .f32) (x := codeP x f) (by rw [hpr]; exact rg_lt_I hr2)
  rw [hpr, hpn, dn_S] at e3
  have hle : mg S r2 / 2 ^ 149 ≤ 32767 := by
    have : mg S r2 ≤ 32767 * 2 ^ 149 := by rw [← mg_K]; exact mg_le hr2
    exact Nat.le_trans (Nat.div_le_div_right this) (by rw [Nat.mul_div_cancel _ (Nat.two_pow_pos _)]; exact Nat.le_refl _)
  have e4 : floatToIntVal .f32 (codeP x f) .i64 = some (sg (ng S x) (mg S r2 / 2 ^ 149)) := by
    unfold floatToIntVal
    rw [show FloatKind.f32.decode (codeP x f) = S.read (codeP x f) from rfl, e3]
    simp only
    generalize mg S r2 / 2 ^ 149 = v at hle
    rw [if_pos ?_]
    unfold sg
    rw [show IntKind.i64.min = -9223372036854775808 from by decide, show IntKind.i64.max = 9223372036854775807 from by decide]
    split <;> omega
  have hc : codeF x f = sg (ng S x) (mg S r2 / 2 ^ 149) := by unfold codeF; rw [e4]; rfl
  exact ⟨r, r2, ⟨R1, R2, hr, hr2⟩, by rw [show floatBits .quo .f32 x f = S.div x f from rfl, e1, q1], by rw [show floatBits .mul .f32 (codeQ x f) 1191181824 = S.mul (codeQ x f) 1191181824 from rfl, e2, p1], by rw [e4, hc], hc, hle⟩

/-- the value of a code -/
def valQ (n : Int) : Nat := (floatBits .quo .f32 (floatOfInt .f32 n) 1191181824).getD 0
def valF (n : Int) (f : Nat) : Nat := (floatBits .mul .f32 (valQ n) f).getD 0

theorem val_spec {n : Int} {f : Nat} (hn : n.natAbs ≤ 32767) (hf : rg S f < S.infRung) : ∃ r r2, Rnd S (n.natAbs * 2 ^ 149) 32767 r ∧ Rnd S (mg S r * mg S (rg S f)) (2 ^ 149) r2 ∧ r ≤ 1065353216 ∧
    floatBits .quo .f32 (floatOfInt .f32 n) 1191181824 = some (valQ n) ∧ floatBits .mul .f32 (valQ n) f = some (valF n f) ∧ valF n f = out S (decide (n < 0) ^^ ng S f) r2 := by
  obtain ⟨a, ea, ma, la⟩ := ofInt_spec n hn
  have hmina : min a S.infRung = a := Nat.min_eq_left (by omega)
  obtain ⟨r, e1, R1⟩ := div_fin (f := S) (fine .f32) (x := floatOfInt .f32 n) (y := 1191181824) (by rw [ea, out_rg, hmina]; exact la) (by rw [rg_K]; exact rg_lt_I (Nat.le_refl _)) (by rw [rg_K]; omega)
  rw [ea, out_rg, hmina, ma, rg_K, mg_K, dn_S] at R1
  have R1' : Rnd S (n.natAbs * 2 ^ 149) 32767 r := R1.scale (Nat.mul_pos (by omega) (Nat.two_pow_pos _)) (by omega) (by
    rw [Nat.mul_assoc (n.natAbs * 2 ^ 149), Nat.mul_comm (2 ^ 149) 32767])
  have hr : r ≤ 1065353216 := by
    refine R1'.le_of (by omega) ?_
    rw [mg_one32]; exact Nat.mul_le_mul_right _ hn
  have hmin : min r S.infRung = r := Nat.min_eq_left (by rw [S_I]; omega)
  have q1 : valQ n = out S (ng S (floatOfInt .f32 n) ^^ ng S 1191181824) r := by unfold valQ; rw [show floatBits .quo .f32 (floatOfInt .f32 n) 1191181824 = S.div (floatOfInt .f32 n) 1191181824 from rfl, e1]; rfl
  have hqr : rg S (valQ n) = r := by rw [q1, out_rg, hmin]
  have hqn : ng S (valQ n) = decide (n < 0) := by rw [q1, out_ng, ng_K, Bool.xor_false, ea, out_ng]
  obtain ⟨r2, e2, R2⟩ := mul_fin (f := S) (fine .f32) (x := valQ n) (y := f) (by rw [hqr]; exact rg_lt_I (by omega)) hf
  rw [hqr, dn_S] at R2
  have p1 : valF n f = out S (ng S (valQ n) ^^ ng S f) r2 := by unfold valF; rw [show floatBits .mul .f32 (valQ n) f = S.mul (valQ n) f from rfl, e2]; rfl
  refine ⟨r, r2, R1', R2, hr, ?_, ?_, ?_⟩
  · rw [show floatBits .quo .f32 (floatOfInt .f32 n) 1191181824 = S.div (floatOfInt .f32 n) 1191181824 from rfl, e1, q1]
  · rw [show floatBits .mul .f32 (valQ n) f = S.mul (valQ n) f from rfl, e2, p1]
  · rw [p1, hqn]
end Go.Proofs.YtpbklllmplimaaaDoor.same
