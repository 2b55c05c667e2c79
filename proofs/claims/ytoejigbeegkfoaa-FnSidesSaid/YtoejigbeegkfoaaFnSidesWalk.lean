/- The law FnSides, walked: it returns true. -/
import Derived.Test.YtoejigbeegkfoaaRows
import Derived.Test.YtoejigbeegkfoaaDrawCx
import Derived.Test.YtoejigbeegkfoaaBig
import Derived.Test.YtoejigbeegkfoaaFlRes
namespace Go.Proofs.Ytoejigbeegkfoaa.fnSides
open Go.RowKit draw base same Fl
set_option linter.unusedVariables false

/-- what SideOf tells of -/
def sideO (a b c d : Nat) : Option Nat := (floatBits .mul .f64 a d).bind fun x => (floatBits .mul .f64 b c).bind fun y => floatBits .sub .f64 x y
/-- what NormOf tells -/
def normO (a b : Nat) : Option Nat := (floatBits .mul .f64 a a).bind fun x => (floatBits .mul .f64 b b).bind fun y => floatBits .add .f64 x y

theorem sideO_turn (a b c d : Nat) : sgnO (sideO c d a b) = -sgnO (sideO a b c d) := by
  unfold sideO
  rw [mul_comm_bits .f64 c b, mul_comm_bits .f64 d a]
  cases floatBits .mul .f64 b c with
  | none => cases floatBits .mul .f64 a d <;> rfl
  | some y =>
    cases floatBits .mul .f64 a d with
    | none => rfl
    | some x => exact sub_turn x y
theorem sideO_self (a b : Nat) : sgnO (sideO a b a b) = 0 := by
  have := sideO_turn a b a b
  omega

/-- an integer and some draws -/
def IntD (x : Int) (w : World) (e : Ending) (w' : World) : Prop := e = .returned (.int .i64 x) ∧ ∃ n, w' = w.drewN n

set_option maxHeartbeats 400000 in
theorem sideOf (a b c d : Nat) (w : World) : Calls Try.prog 25 #[.complex .f64 a b, .complex .f64 c d] w (IntD (sgnO (sideO a b c d)) w) := by
  obtain ⟨z1, m1, h1, q1, l1⟩ := arith_res0 Try.prog (op := .mul) (by simp) .f64 a d 46 w
  obtain ⟨z2, m2, h2, q2, l2⟩ := arith_res Try.prog (op := .mul) (by simp) .f64 b c 46 w m1
  obtain ⟨z3, m3, h3, q3, l3⟩ := arith_res Try.prog (op := .sub) (by simp) .f64 z1 z2 46 w m2
  have hs := (q1.bind2 q2 q3).sgn
  have HS : Hid (sgnK z3 = sgnO (sideO a b c d)) := hs
  clear q1 q2 q3 l1 l2 l3 hs
  cases hn : num D z3 with
  | false =>
    have t1 := ordNanL hn 0
    have e0 : sgnK z3 = 0 := by simp [sgnK, hn]
    have E0 := Lib.hid e0
    clear hn e0
    go_enter Try.func25, Try.ntmps25
    go_wp2
    go_ret
    exact ⟨by rw [← HS.out, E0.out]; rfl, m3, rfl⟩
  | true =>
    rcases Int.lt_trichotomy (key D z3) 0 with h | h | h
    · have t1 := ordLt hn (num_zero D) (by rw [key_zero]; exact h)
      have e0 : sgnK z3 = -1 := by unfold sgnK; rw [if_neg (by omega), if_pos ⟨hn, h⟩]
      have E0 := Lib.hid e0
      clear hn e0 h
      go_enter Try.func25, Try.ntmps25
      go_wp2
      go_ret
      exact ⟨by rw [← HS.out, E0.out]; rfl, m3, rfl⟩
    · have t1 := ordEq hn (num_zero D) (by rw [key_zero]; exact h)
      have e0 : sgnK z3 = 0 := by unfold sgnK; rw [if_neg (by omega), if_neg (by omega)]
      have E0 := Lib.hid e0
      clear hn e0 h
      go_enter Try.func25, Try.ntmps25
      go_wp2
      go_ret
      exact ⟨by rw [← HS.out, E0.out]; rfl, m3, rfl⟩
    · have t1 := ordGt hn (num_zero D) (by rw [key_zero]; exact h)
      have e0 : sgnK z3 = 1 := by unfold sgnK; rw [if_pos ⟨hn, h⟩]
      have E0 := Lib.hid e0
      clear hn e0 h
      go_enter Try.func25, Try.ntmps25
      go_wp2
      go_ret
      exact ⟨by rw [← HS.out, E0.out]; rfl, m3, rfl⟩

/-- a float64 as told, and some draws -/
def FloD (o : Option Nat) (w : World) (e : Ending) (w' : World) : Prop := ∃ z, e = .returned (.float .f64 z) ∧ Res .f64 o z ∧ ∃ n, w' = w.drewN n

theorem normOf (a b : Nat) (w : World) : Calls Try.prog 23 #[.complex .f64 a b] w (FloD (normO a b) w) := by
  obtain ⟨z1, m1, h1, q1, l1⟩ := arith_res0 Try.prog (op := .mul) (by simp) .f64 a a 46 w
  obtain ⟨z2, m2, h2, q2, l2⟩ := arith_res Try.prog (op := .mul) (by simp) .f64 b b 46 w m1
  obtain ⟨z3, m3, h3, q3, l3⟩ := arith_res Try.prog (op := .add) (by simp) .f64 z1 z2 46 w m2
  have hs := q1.bind2 q2 q3
  have HS : Hid (Res .f64 (normO a b) z3) := hs
  clear q1 q2 q3 l1 l2 l3 hs
  go_enter Try.func23, Try.ntmps23
  go_wp2
  go_ret
  exact ⟨z3, rfl, HS.out, m3, rfl⟩

theorem conjugate (a b : Nat) (w : World) : Calls Try.prog 24 #[.complex .f64 a b] w fun e w' => e = .returned (.complex .f64 a (Op.negFloat .f64 b)) ∧ w = w' := by
  have hn := fun k b => unary_neg_float k b
  go_enter Try.func24, Try.ntmps24
  go_wp2
  go_ret
  exact ⟨rfl, rfl⟩

theorem read_neg {b : Nat} (hb : b < 2 ^ 64) : D.read (Op.negFloat .f64 b) = (D.read b).opposite := by
  have h1 := rg_neg .f64 hb
  have h2 := ng_neg .f64 hb
  have key : ∀ w, D.read w = if rg D w < D.binade then Ieee.Datum.number (ng D w) (rg D w) D.leastPlace
    else if rg D w < D.infRung then .number (ng D w) (D.binade + rg D w % D.binade) (D.leastPlace + (rg D w / D.binade - 1 : Nat))
    else if rg D w = D.infRung then .infinity (ng D w) else .nan (ng D w) (rg D w - D.infRung) := fun _ => rfl
  rw [key, key, h1, h2]
  repeat' split
  all_goals rfl
theorem mul_neg {b : Nat} (hb : b < 2 ^ 64) : floatBits .mul .f64 (Op.negFloat .f64 b) (Op.negFloat .f64 b) = floatBits .mul .f64 b b := by
  show D.mul _ _ = D.mul b b
  unfold Ieee.Format.mul
  rw [read_neg hb]
  cases D.read b <;> simp [Ieee.Datum.opposite, Ieee.Datum.product]
theorem norm_conj {a b : Nat} (hb : b < 2 ^ 64) : normO a (Op.negFloat .f64 b) = normO a b := by
  unfold normO; rw [mul_neg hb]

theorem side_one : sgnO (sideO 4607182418800017408 0 0 4607182418800017408) = 1 := by kernel_rfl
theorem sgnO_range (o : Option Nat) : -1 ≤ sgnO o ∧ sgnO o ≤ 1 := by
  cases o with
  | none => simp [sgnO]
  | some z =>
    simp only [sgnO, sgnK]
    split
    · omega
    · split <;> omega

set_option maxHeartbeats 1000000 in
theorem walk (A : Option Addr) (n c : Nat) (w : World) (hb : Bytes w A n c) :
    Calls Try.prog 7 #[.slice A n c] w fun e w' => e = .returned (.bool true) ∧ Below w.heap.size w w' := by
  have HB := Lib.hid hb
  clear hb
  by_cases hbig : (n : Int) > 1048576
  · have hd : decide ((n : Int) > 1048576) = true := by simpa using hbig
    go_enter Try.func7, Try.ntmps7
    go_wp2_with fail
    refine (big A n c _).mono ?_
    rintro e w1 ⟨rfl, rfl⟩
    go_wp2_with fail
    go_ret
    exact ⟨rfl, Below.refl _ _⟩
  · have hd : decide ((n : Int) > 1048576) = false := by simpa using hbig
    go_enter Try.func7, Try.ntmps7
    go_wp2_with fail
    refine (big A n c _).mono ?_
    rintro e w1 ⟨rfl, rfl⟩
    go_wp2_with fail
    refine (drawSideOf w A n c HB.out).mono ?_
    rintro e w1 ⟨v, rfl, ⟨a, b, x, y, rfl, ha, hb, hx, hy⟩, b1⟩
    have B1 := Lib.hid b1
    have HBB : Hid (b < 2 ^ 64) := hb
    clear b1 hbig hd ha hb hx hy
    go_wp2_with fail
    refine (normOf a b _).mono ?_
    rintro e w2 ⟨z1, rfl, q1, n1, rfl⟩
    have Q1 := Lib.hid q1
    clear q1
    go_wp2_with fail
    refine (conjugate a b _).mono ?_
    rintro e w2 ⟨rfl, rfl⟩
    go_wp2_with fail
    refine (normOf a _ _).mono ?_
    rintro e w2 ⟨z2, rfl, q2, n2, rfl⟩
    rw [norm_conj HBB.out] at q2
    have Q2 := Lib.hid q2
    clear q2
    go_wp2_with fail
    refine (sideOf a b x y _).mono ?_
    rintro e w2 ⟨rfl, n3, rfl⟩
    go_wp2_with fail
    refine (sideOf x y a b _).mono ?_
    rintro e w2 ⟨rfl, n4, rfl⟩
    rw [sideO_turn a b x y]
    obtain ⟨s0, s1⟩ := sgnO_range (sideO a b x y)
    generalize sgnO (sideO a b x y) = s at *
    go_wp2_with fail
    refine (sideOf a b a b _).mono ?_
    rintro e w2 ⟨rfl, n5, rfl⟩
    rw [sideO_self]
    cases ho : normO a b with
    | none =>
      have k1 : num D z1 = false := by
        rcases Q1.out with ⟨h, _⟩ | ⟨_, h⟩
        · rw [ho] at h; cases h
        · exact h
      have k2 : num D z2 = false := by
        rcases Q2.out with ⟨h, _⟩ | ⟨_, h⟩
        · rw [ho] at h; cases h
        · exact h
      have t1 := ordNanL k1
      have t2 := ordNanL k2
      clear ho k1 k2
      go_wp2_with fail
      refine (sideOf _ _ _ _ _).mono ?_
      rintro e w2 ⟨rfl, n6, rfl⟩
      rw [side_one]
      go_wp2_with fail
      go_ret
      refine ⟨rfl, ?_⟩
      exact ⟨B1.out.os, B1.out.tape, B1.out.output, B1.out.size, B1.out.block⟩
    | some r =>
      have k1 : r = z1 ∧ num D z1 = true := by
        rcases Q1.out with ⟨h, h'⟩ | ⟨h, _⟩
        · rw [ho] at h; cases h; exact ⟨rfl, h'⟩
        · rw [ho] at h; cases h
      have k2 : r = z2 := by
        rcases Q2.out with ⟨h, h'⟩ | ⟨h, _⟩
        · rw [ho] at h; cases h; rfl
        · rw [ho] at h; cases h
      have k3 : z2 = z1 := by rw [← k2, k1.1]
      subst k3
      have t1 := ordSelf k1.2
      clear ho k1 k2
      go_wp2_with fail
      refine (sideOf _ _ _ _ _).mono ?_
      rintro e w2 ⟨rfl, n6, rfl⟩
      rw [side_one]
      go_wp2_with fail
      go_ret
      refine ⟨rfl, ?_⟩
      exact ⟨B1.out.os, B1.out.tape, B1.out.output, B1.out.size, B1.out.block⟩
end Go.Proofs.Ytoejigbeegkfoaa.fnSides
