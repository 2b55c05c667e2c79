/- The quotient of two finite complex numbers, the divisor not 0: what its two parts are, told up to which NaN. -/
import Derived.Test.YtoejigbeegkfoaaFlRes
namespace Go.Proofs.Ytoejigbeegkfoaa.same
open Go.RowKit Fl Ieee
set_option linter.unusedVariables false

section
variable (P : Program)
theorem carith {op : BinOp} (hop : op = .add ∨ op = .sub ∨ op = .mul ∨ op = .quo) (x y : Nat) (w : World) (n : Nat) :
    ∃ (z m : Nat), (Op.Complex.arith op .f64 x y).run P (w.drewN n) = .ok z (w.drewN m) ∧ Res .f64 (floatBits op .f64 x y) z ∧ z < 2 ^ 64 := by
  obtain ⟨z, m, h, r, l⟩ := arith_res P hop .f64 x y 0 w n
  refine ⟨z, m, ?_, r, l⟩
  have h' : (Op.floatArith op .f64 x y).run P (w.drewN n) = .ok (.float .f64 z) (w.drewN m) := by
    rcases hop with rfl | rfl | rfl | rfl <;> simpa [binOp] using h
  simp [Op.Complex.arith, h']

/-- the two parts, the divisor's real part the greater -/
def quoGe (a b c d : Nat) (x y : Nat) : Prop :=
  ∃ ρ rd den br n1 ar n2, Res .f64 (floatBits .quo .f64 d c) ρ ∧ Res .f64 (floatBits .mul .f64 ρ d) rd ∧ Res .f64 (floatBits .add .f64 c rd) den ∧
    Res .f64 (floatBits .mul .f64 b ρ) br ∧ Res .f64 (floatBits .add .f64 a br) n1 ∧ Res .f64 (floatBits .quo .f64 n1 den) x ∧
    Res .f64 (floatBits .mul .f64 a ρ) ar ∧ Res .f64 (floatBits .sub .f64 b ar) n2 ∧ Res .f64 (floatBits .quo .f64 n2 den) y
def quoLt (a b c d : Nat) (x y : Nat) : Prop :=
  ∃ ρ rc den ar n1 br n2, Res .f64 (floatBits .quo .f64 c d) ρ ∧ Res .f64 (floatBits .mul .f64 ρ c) rc ∧ Res .f64 (floatBits .add .f64 d rc) den ∧
    Res .f64 (floatBits .mul .f64 a ρ) ar ∧ Res .f64 (floatBits .add .f64 ar b) n1 ∧ Res .f64 (floatBits .quo .f64 n1 den) x ∧
    Res .f64 (floatBits .mul .f64 b ρ) br ∧ Res .f64 (floatBits .sub .f64 br a) n2 ∧ Res .f64 (floatBits .quo .f64 n2 den) y

theorem isInf_fin {x : Nat} (h : fin D x = true) : Op.Complex.isInf x = false := by
  obtain ⟨m, i, e, _⟩ := read_fin D (fin_iff.1 h)
  unfold Op.Complex.isInf
  rw [show FloatKind.f64.decode x = _ from e]; rfl

theorem ccmp (op : BinOp) (x y : Nat) (w : World) : ∃ r, (Op.Complex.cmp .eql .f64 x y).run P w = .ok r w ∧ r = (D.order x y == some .eq) := ⟨_, by simp [Op.Complex.cmp, Op.floatCmp, asBool], rfl⟩

set_option maxHeartbeats 1000000 in
theorem quotient_run {a b c d : Nat} (fa : fin D a = true) (fb : fin D b = true) (fc : fin D c = true) (fd : fin D d = true) (hz : ¬ (rg D c = 0 ∧ rg D d = 0)) (w : World) :
    ∃ (x y m : Nat), (Op.Complex.quotient a b c d).run P w = .ok (x, y) (w.drewN m) ∧ x < 2 ^ 64 ∧ y < 2 ^ 64 ∧ ((absGe c d = true ∧ quoGe a b c d x y) ∨ (absGe c d = false ∧ quoLt a b c d x y)) := by
  have ia := isInf_fin fa
  have ib := isInf_fin fb
  have ic := isInf_fin fc
  have id := isInf_fin fd
  have hzero : ∀ w', ∃ r1 r2, (Op.Complex.cmp .eql .f64 c 0).run P w' = .ok r1 w' ∧ (Op.Complex.cmp .eql .f64 d 0).run P w' = .ok r2 w' ∧ (r1 && r2) = false := by
    intro w'
    obtain ⟨r1, h1, e1⟩ := ccmp P .eql c 0 w'
    obtain ⟨r2, h2, e2⟩ := ccmp P .eql d 0 w'
    refine ⟨r1, r2, h1, h2, ?_⟩
    rw [e1, e2]
    by_cases hc : rg D c = 0
    · have hd : key D d ≠ 0 := by rw [Ne, key_eq_zero]; exact fun h => hz ⟨hc, h⟩
      rw [ord (num_of_fin fd) (num_zero D), key_zero]
      rcases Int.lt_or_gt_of_ne hd with h | h
      · rw [cmp_lt h]; simp
      · rw [cmp_gt h]; simp
    · have hc' : key D c ≠ 0 := by rw [Ne, key_eq_zero]; exact hc
      rw [ord (num_of_fin fc) (num_zero D), key_zero]
      rcases Int.lt_or_gt_of_ne hc' with h | h
      · rw [cmp_lt h]; simp
      · rw [cmp_gt h]; simp
  cases hge : absGe c d with
  | true =>
    obtain ⟨ρ, m1, h1, q1, _⟩ := carith P (op := .quo) (by simp) d c w 0
    obtain ⟨rd, m2, h2, q2, _⟩ := carith P (op := .mul) (by simp) ρ d w m1
    obtain ⟨den, m3, h3, q3, _⟩ := carith P (op := .add) (by simp) c rd w m2
    obtain ⟨br, m4, h4, q4, _⟩ := carith P (op := .mul) (by simp) b ρ w m3
    obtain ⟨n1, m5, h5, q5, _⟩ := carith P (op := .add) (by simp) a br w m4
    obtain ⟨x, m6, h6, q6, l6⟩ := carith P (op := .quo) (by simp) n1 den w m5
    obtain ⟨ar, m7, h7, q7, _⟩ := carith P (op := .mul) (by simp) a ρ w m6
    obtain ⟨n2, m8, h8, q8, _⟩ := carith P (op := .sub) (by simp) b ar w m7
    obtain ⟨y, m9, h9, q9, l9⟩ := carith P (op := .quo) (by simp) n2 den w m8
    obtain ⟨r1, r2, z1, z2, hzz⟩ := hzero (w.drewN m9)
    refine ⟨x, y, m9, ?_, l6, l9, Or.inl ⟨rfl, ρ, rd, den, br, n1, ar, n2, q1, q2, q3, q4, q5, q6, q7, q8, q9⟩⟩
    have h1' : (Op.Complex.arith .quo .f64 d c).run P w = .ok ρ (w.drewN m1) := h1
    unfold Op.Complex.quotient
    simp only [Sem.run_bind, run_ccmp_geq, hge, Result.andThen_ok, if_true, Op.Complex.mul, Op.Complex.sub, Op.Complex.add, Op.Complex.quo, h1', h2, h3, h4, h5, h6, h7, h8, h9, Sem.run_pure, z1, z2, hzz, ia, ib, ic, id, Bool.false_and, Bool.or_self, Bool.false_eq_true, if_false]
    split <;> rfl
  | false =>
    obtain ⟨ρ, m1, h1, q1, _⟩ := carith P (op := .quo) (by simp) c d w 0
    obtain ⟨rc, m2, h2, q2, _⟩ := carith P (op := .mul) (by simp) ρ c w m1
    obtain ⟨den, m3, h3, q3, _⟩ := carith P (op := .add) (by simp) d rc w m2
    obtain ⟨ar, m4, h4, q4, _⟩ := carith P (op := .mul) (by simp) a ρ w m3
    obtain ⟨n1, m5, h5, q5, _⟩ := carith P (op := .add) (by simp) ar b w m4
    obtain ⟨x, m6, h6, q6, l6⟩ := carith P (op := .quo) (by simp) n1 den w m5
    obtain ⟨br, m7, h7, q7, _⟩ := carith P (op := .mul) (by simp) b ρ w m6
    obtain ⟨n2, m8, h8, q8, _⟩ := carith P (op := .sub) (by simp) br a w m7
    obtain ⟨y, m9, h9, q9, l9⟩ := carith P (op := .quo) (by simp) n2 den w m8
    obtain ⟨r1, r2, z1, z2, hzz⟩ := hzero (w.drewN m9)
    refine ⟨x, y, m9, ?_, l6, l9, Or.inr ⟨rfl, ρ, rc, den, ar, n1, br, n2, q1, q2, q3, q4, q5, q6, q7, q8, q9⟩⟩
    have h1' : (Op.Complex.arith .quo .f64 c d).run P w = .ok ρ (w.drewN m1) := h1
    unfold Op.Complex.quotient
    simp only [Sem.run_bind, run_ccmp_geq, hge, Result.andThen_ok, Bool.false_eq_true, if_false, Op.Complex.mul, Op.Complex.sub, Op.Complex.add, Op.Complex.quo, h1', h2, h3, h4, h5, h6, h7, h8, h9, Sem.run_pure, z1, z2, hzz, ia, ib, ic, id, Bool.false_and, Bool.or_self]
    split <;> rfl

theorem run_quo (t : TypeId) {a b c d x y m : Nat} {w : World} (hq : (Op.Complex.quotient a b c d).run P w = .ok (x, y) (w.drewN m)) :
    (binOp .quo t (.complex .f64 a b) (.complex .f64 c d)).run P w = .ok (.complex .f64 x y) (w.drewN m) := by
  simp [binOp, Op.complexOp, Op.Complex.conv, hq]
end
end Go.Proofs.Ytoejigbeegkfoaa.same
