/- math.Ldexp at a whole number: exact. -/
import Derived.Test.YtpbklllmplimaaaDoorPosW
import Derived.Test.YtpbklllmplimaaaDoorFinite
import Derived.IntWalk
namespace Go.Proofs.YtpbklllmplimaaaDoor.same
open Go.RowKit Fl Ieee
set_option linter.unusedVariables false

/-- k binades up -/
theorem mg_up {r : Nat} (h : 4503599627370496 ≤ r) (k : Nat) : mg D (r + k * 4503599627370496) = mg D r * 2 ^ k := by
  unfold mg
  rw [D_B, if_neg (by omega), if_neg (by omega), Nat.add_mul_mod_self_right, Nat.add_mul_div_right _ _ (by omega), Nat.mul_assoc, ← Nat.pow_add]
  congr 2
  have : 1 ≤ r / 4503599627370496 := (Nat.one_le_div_iff (by omega)).2 h
  omega
theorem one_le {z n : Nat} (hz : isD z (n * 2 ^ e64)) (h1 : 1 ≤ n) (h2 : n < 16777216) : 4607182418800017408 ≤ z ∧ z < 4715268809856909312 := by
  constructor
  · rw [← mg_le_iff (f := D), mg_one64, hz.2]
    exact Nat.le_mul_of_pos_left _ h1
  · have h3 : mg D 4715268809856909312 = 16777216 * 2 ^ e64 := by
      have := mg_at (d := 1046) (c := 4503599627370496) (k := 28) (q := 16777216) (e := e64) (by decide) (by omega) (by omega) (by rw [e64_eq])
      exact this
    rw [← mg_lt_iff (f := D), h3, hz.2]
    exact Nat.mul_lt_mul_of_pos_right h2 (Nat.two_pow_pos _)
/-- the word that Ldexp makes -/
theorem ldexp_word {z n : Nat} {e : Int} (hz : isD z (n * 2 ^ e64)) (h1 : 1 ≤ n) (h2 : n < 16777216) (e0 : -149 ≤ e) (e1 : e ≤ 127) :
    isD ((z : Int) + e * 4503599627370496).toNat (n * 2 ^ ((e64 : Int) + e).toNat) := by
  obtain ⟨l1, l2⟩ := one_le hz h1 h2
  have hI : D.infRung = 9218868437227405312 := D_I
  rcases Int.le_total 0 e with h | h
  · have e2 : ((z : Int) + e * 4503599627370496).toNat = z + e.toNat * 4503599627370496 := by omega
    have e3 : ((e64 : Int) + e).toNat = e64 + e.toNat := by omega
    rw [e2, e3]
    refine ⟨by rw [hI]; omega, ?_⟩
    rw [mg_up (by omega), hz.2, Nat.mul_assoc, ← Nat.pow_add]
  · obtain ⟨k, rfl⟩ : ∃ k : Nat, e = -(k : Int) := ⟨(-e).toNat, by omega⟩
    have e2 : ((z : Int) + -(k : Int) * 4503599627370496).toNat = z - k * 4503599627370496 := by omega
    have e3 : ((e64 : Int) + -(k : Int)).toNat = e64 - k := by omega
    rw [e2, e3]
    refine ⟨by rw [hI]; omega, ?_⟩
    have h5 := mg_up (r := z - k * 4503599627370496) (by omega) k
    rw [Nat.sub_add_cancel (by omega), hz.2] at h5
    have h6 : n * 2 ^ e64 = n * 2 ^ (e64 - k) * 2 ^ k := by rw [Nat.mul_assoc, ← Nat.pow_add, Nat.sub_add_cancel (by rw [e64_eq]; omega)]
    rw [h6] at h5
    exact (Nat.eq_of_mul_eq_mul_right (Nat.two_pow_pos k) h5).symm

/-- the exponent's bits struck out -/
theorem andNot_exp (a : Nat) (ha : a < 9223372036854775808) : Go.bits .andNot .u64 (a : Int) 9218868437227405312 = ((a % 4503599627370496 : Nat) : Int) := by
  have h : Go.bits .andNot .u64 (a : Int) 9218868437227405312 = IntKind.u64.wrap ((BitVec.ofInt 64 (a : Int) &&& ~~~ BitVec.ofInt 64 9218868437227405312).toNat : Int) := rfl
  have e1 : (BitVec.ofInt 64 (a : Int)).toNat = a := by
    rw [BitVec.ofInt_natCast, BitVec.toNat_ofNat]; exact Nat.mod_eq_of_lt (by omega)
  have e2 : (~~~ BitVec.ofInt 64 9218868437227405312).toNat = 9227875636482146303 := by decide
  have e3 : a &&& 9227875636482146303 = a % 4503599627370496 := by
    apply Nat.eq_of_testBit_eq
    intro i
    have h4 : (9227875636482146303 : Nat) = 2 ^ 63 + (2 ^ 52 - 1) := by decide
    rw [Nat.testBit_and, show (4503599627370496 : Nat) = 2 ^ 52 from rfl, Nat.testBit_mod_two_pow, h4]
    by_cases hi : i < 63
    · rw [Nat.testBit_two_pow_add_gt hi, Nat.testBit_two_pow_sub_one, Bool.and_comm]
    · have ha2 : a.testBit i = false := Nat.testBit_lt_two_pow (Nat.lt_of_lt_of_le ha (by rw [show (9223372036854775808 : Nat) = 2 ^ 63 from rfl]; exact Nat.pow_le_pow_right (by omega) (by omega)))
      rw [ha2, Bool.false_and, Bool.and_false]
  rw [h, BitVec.toNat_and, e1, e2, e3, IntKind.wrap_u64]
  have : a % 4503599627370496 < 4503599627370496 := Nat.mod_lt _ (by omega)
  omega
/-- two numbers whose bits do not meet -/
theorem or_apart (a c : Nat) (ha : a < 4503599627370496) (hc : c < 2048) : Go.bits .or .u64 (a : Int) ((c : Int) * 4503599627370496) = (a : Int) + (c : Int) * 4503599627370496 := by
  have h : Go.bits .or .u64 (a : Int) (((c * 4503599627370496 : Nat)) : Int) = IntKind.u64.wrap ((BitVec.ofInt 64 (a : Int) ||| BitVec.ofInt 64 (((c * 4503599627370496 : Nat)) : Int)).toNat : Int) := rfl
  have e1 : (BitVec.ofInt 64 (a : Int)).toNat = a := by
    rw [BitVec.ofInt_natCast, BitVec.toNat_ofNat]; exact Nat.mod_eq_of_lt (by omega)
  have e2 : (BitVec.ofInt 64 (((c * 4503599627370496 : Nat)) : Int)).toNat = c * 4503599627370496 := by
    rw [BitVec.ofInt_natCast, BitVec.toNat_ofNat]; exact Nat.mod_eq_of_lt (by omega)
  have e3 : a ||| c * 4503599627370496 = a + c * 4503599627370496 := by
    have := Nat.two_pow_add_eq_or_of_lt (i := 52) (b := a) (by rw [show (2 : Nat) ^ 52 = 4503599627370496 from rfl]; exact ha) c
    rw [show (2 : Nat) ^ 52 = 4503599627370496 from rfl] at this
    rw [Nat.or_comm, Nat.mul_comm c, ← this, Nat.add_comm]
  have e4 : ((c : Int) * 4503599627370496) = (((c * 4503599627370496 : Nat)) : Int) := by omega
  rw [e4, h, BitVec.toNat_or, e1, e2, e3, IntKind.wrap_u64]
  omega

/-- normalize at a normal number of no sign -/
theorem normalize (z : Nat) (h1 : 4503599627370496 ≤ z) (h2 : z < D.infRung) (w : World) : Calls Tryd.prog 70 #[.float .f64 z] w fun e w' => e = .returned (.tuple #[.float .f64 z, .int .i64 0]) ∧ w = w' := by
  have hI : D.infRung = 9218868437227405312 := D_I
  have hB : 4503599627370496 < D.infRung := by rw [hI]; omega
  have hk : D.order z 4503599627370496 = some .gt ∨ D.order z 4503599627370496 = some .eq := by
    have k1 : key FloatKind.f64.format z = (z : Int) := (gnum h2).2.2
    have k2 : key FloatKind.f64.format 4503599627370496 = ((4503599627370496 : Nat) : Int) := (gnum hB).2.2
    rcases Nat.lt_or_eq_of_le h1 with h | h
    · exact Or.inl (ordGt (k := .f64) (gnum h2).1 (gnum hB).1 (by rw [k1, k2]; omega))
    · exact Or.inr (ordEq (k := .f64) (gnum h2).1 (gnum hB).1 (by rw [k1, k2]; omega))
  have hl : z < 9223372036854775808 := by omega
  have hm : z % 9223372036854775808 = z := Nat.mod_eq_of_lt hl
  have HM := Lib.hid hm
  clear hm h2 hI hB
  rcases hk with hk | hk
  all_goals
    (go_enter Tryd.func70, Tryd.ntmps70
     go_wp2_with fail
     refine (abs z (by omega) _).mono ?_
     rintro e w1 ⟨rfl, rfl⟩
     rw [HM.out]
     go_wp2_with fail
     go_ret2
     exact ⟨rfl, rfl⟩)

theorem and_fin : ∀ x : Fin 2048, Go.bits .and .i64 (x.val : Int) 2047 = (x.val : Int) := by decide +kernel

set_option maxHeartbeats 1000000 in
theorem ldexp_w (z : Nat) (e : Int) (l1 : 4602678819172646912 ≤ z) (l2 : z < 4715268809856909312) (e0 : -149 ≤ e) (e1 : e ≤ 127) (w : World) :
    Calls Tryd.prog 60 #[.float .f64 z, .int .i64 e] w fun en w' => en = .returned (.float .f64 ((z : Int) + e * 4503599627370496).toNat) ∧ w = w' := by
  have hzI : z < D.infRung := by rw [D_I]; omega
  have hnum := (gnum hzI).1
  have hk : D.order z 0 = some .gt := ordGt (k := .f64) hnum (num_zero _) (by
    rw [show key FloatKind.f64.format z = (z : Int) from (gnum hzI).2.2, key_zero]; omega)
  have HI : Hid ((rg D z == D.infRung) = false) := by show _ = _; rw [(gpos hzI).1]; simp; omega
  have HN : Hid ((!num D z) = false) := by show _ = _; rw [hnum]; rfl
  have HZI := Lib.hid hzI
  have hb := run_float64bits z
  obtain ⟨y, hy⟩ : ∃ y : Nat, ((z : Int) + e * 4503599627370496).toNat = y := ⟨_, rfl⟩
  have hW : isD y (mg D y) := ⟨by rw [D_I]; omega, rfl⟩
  rw [hy]
  have HY := Lib.hid hy
  have HW := Lib.hid hW
  clear hnum hzI hy hW
  go_enter Tryd.func60, Tryd.ntmps60
  go_wp2_with fail
  refine (isInf z (by omega) _).mono ?_
  rintro en w1 ⟨rfl, rfl⟩
  rw [HI.out]
  go_wp2_with fail
  refine (isNaN z _).mono ?_
  rintro en w1 ⟨rfl, rfl⟩
  rw [HN.out]
  go_wp2_with fail
  refine (normalize z (by omega) HZI.out _).mono ?_
  rintro en w1 ⟨rfl, rfl⟩
  obtain ⟨c, hc⟩ : ∃ c : Nat, (z : Int) / 4503599627370496 = (c : Int) := ⟨z / 4503599627370496, by omega⟩
  have c0 : 1022 ≤ c := by omega
  have c1 : c ≤ 1047 := by omega
  have hand : Go.bits .and .i64 (c : Int) 2047 = (c : Int) := and_fin ⟨c, by omega⟩
  obtain ⟨f, hf, hf2⟩ : ∃ f : Nat, Go.bits .andNot .u64 (z : Int) 9218868437227405312 = (f : Int) ∧ f = z % 4503599627370496 := ⟨_, andNot_exp z (by omega), rfl⟩
  obtain ⟨g, hg⟩ : ∃ g : Nat, e + ((c : Int) - 1023) + 1023 = (g : Int) := ⟨(e + c).toNat, by omega⟩
  have hy := HY.out
  have hW := HW.out
  have hor : Go.bits .or .u64 (f : Int) ((g : Int) * 4503599627370496) = (y : Int) := by
    rw [or_apart f g (by omega) (by omega)]; omega
  have hfb : ∀ W : World, (callFunc 43 #[.int .u64 (y : Int)]).run Tryd.prog W = .ok (.value (.float .f64 y)) W := fun W => run_float64frombits (y : Int) W
  have q1 := fun W : World => run_float_arith (P := Tryd.prog) W .mul 26 .f64 _ _ _ (once_exact hW)
  clear hf2 hy hW
  go_wp2_with fail
  go_ret
  exact ⟨rfl, rfl⟩
theorem ldexp_at (z n : Nat) (e : Int) (hz : isD z (n * 2 ^ e64)) (hn : 1 ≤ n) (hn2 : n < 16777216) (e0 : -149 ≤ e) (e1 : e ≤ 127) (w : World) :
    Calls Tryd.prog 60 #[.float .f64 z, .int .i64 e] w fun en w' => en = .returned (.float .f64 ((z : Int) + e * 4503599627370496).toNat) ∧ w = w' := by
  obtain ⟨l1, l2⟩ := one_le hz hn hn2
  exact ldexp_w z e (by omega) l2 e0 e1 w

/-- some float64 of that magnitude -/
def LdE (M : Nat) (w : World) (en : Ending) (w' : World) : Prop := ∃ y, en = .returned (.float .f64 y) ∧ isD y M ∧ w = w'

theorem ldexp_zero (e : Int) (w : World) : Calls Tryd.prog 60 #[.float .f64 0, .int .i64 e] w fun en w' => en = .returned (.float .f64 0) ∧ w = w' := by
  have hk : D.order 0 0 = some .eq := ordSelf (k := .f64) (num_zero _)
  go_enter Tryd.func60, Tryd.ntmps60
  go_wp2_with fail
  go_ret
  exact ⟨rfl, rfl⟩

theorem ldexp_any (z n : Nat) (e : Int) (hz : isD z (n * 2 ^ e64)) (hn2 : n < 16777216) (e0 : -149 ≤ e) (e1 : e ≤ 127) (w : World) :
    Calls Tryd.prog 47 #[.float .f64 z, .int .i64 e] w (LdE (n * 2 ^ ((e64 : Int) + e).toNat) w) := by
  rcases Nat.eq_zero_or_pos n with h0 | h0
  · have hz0 : z = 0 := by
      have h2 := hz.2
      rw [h0, Nat.zero_mul] at h2
      exact mg_inj (f := D) (by rw [h2, mg_zero])
    subst hz0
    have HZ : Hid (isD 0 (n * 2 ^ ((e64 : Int) + e).toNat)) := by
      show isD _ _
      rw [h0, Nat.zero_mul]; exact ⟨hz.1, mg_zero _⟩
    clear hz h0
    go_enter Tryd.func47, Tryd.ntmps47
    go_wp2_with fail
    refine (ldexp_zero e _).mono ?_
    rintro en w1 ⟨rfl, rfl⟩
    go_wp2_with fail
    go_ret
    exact ⟨_, rfl, HZ.out, rfl⟩
  · have HW := Lib.hid (ldexp_word hz h0 hn2 e0 e1)
    go_enter Tryd.func47, Tryd.ntmps47
    go_wp2_with fail
    refine (ldexp_at z n e hz h0 hn2 e0 e1 _).mono ?_
    rintro en w1 ⟨rfl, rfl⟩
    go_wp2_with fail
    go_ret
    exact ⟨_, rfl, HW.out, rfl⟩
theorem ldexp_24 (z : Nat) (l1 : 4602678819172646912 ≤ z) (l2 : z < 4607182418800017408) (w : World) :
    Calls Tryd.prog 47 #[.float .f64 z, .int .i64 24] w fun en w' => en = .returned (.float .f64 (z + 24 * 4503599627370496)) ∧ w = w' := by
  have HE : Hid (((z : Int) + 24 * 4503599627370496).toNat = z + 24 * 4503599627370496) := by show _ = _; omega
  go_enter Tryd.func47, Tryd.ntmps47
  go_wp2_with fail
  refine (ldexp_w z 24 l1 (by omega) (by omega) (by omega) _).mono ?_
  rintro en w1 ⟨rfl, rfl⟩
  rw [HE.out]
  go_wp2_with fail
  go_ret
  exact ⟨rfl, rfl⟩
end Go.Proofs.YtpbklllmplimaaaDoor.same
