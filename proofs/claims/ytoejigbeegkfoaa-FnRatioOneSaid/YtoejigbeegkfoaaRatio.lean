/- Contracts of IsFinite in both packages and of Ratio; the quotient of a number and itself, and of a number and 1. -/
import Derived.Test.YtoejigbeegkfoaaQuo
import Derived.Test.YtoejigbeegkfoaaFinite
import Derived.Test.YtoejigbeegkfoaaFine
namespace Go.Proofs.Ytoejigbeegkfoaa.same
open Go.RowKit Fl Ieee
set_option linter.unusedVariables false

theorem impl_IsFinite (a b : Nat) (ha : a < 2 ^ 64) (hb : b < 2 ^ 64) (w : World) : Calls Try.prog 29 #[.complex .f64 a b] w fun e w' => e = .returned (.bool (fin D a && fin D b)) ∧ w = w' := by
  cases hf : fin D a with
  | false =>
    go_enter Try.func29, Try.ntmps29
    go_wp2_with (go_at_call 42; refine (finite _ ha _).mono ?_; rintro e w1 ⟨rfl, rfl⟩)
    go_ret
    exact ⟨rfl, rfl⟩
  | true =>
    go_enter Try.func29, Try.ntmps29
    go_wp2_with fail
    refine (finite _ ha _).mono ?_
    rintro e w1 ⟨rfl, rfl⟩
    go_wp2_with fail
    refine (finite _ hb _).mono ?_
    rintro e w1 ⟨rfl, rfl⟩
    go_wp2_with fail
    go_ret
    exact ⟨by simp, rfl⟩

theorem spec_IsFinite (a b : Nat) (w : World) : Calls Try.prog 28 #[.complex .f64 a b] w (BoolD (fin D a && fin D b) w) := by
  cases hf : fin D a with
  | false =>
    go_enter Try.func28, Try.ntmps28
    go_wp2_with fail
    refine (l01Fine a _).mono ?_
    rintro e w1 ⟨rfl, n, rfl⟩
    go_wp2_with fail
    go_ret
    exact ⟨rfl, n, rfl⟩
  | true =>
    go_enter Try.func28, Try.ntmps28
    go_wp2_with fail
    refine (l01Fine a _).mono ?_
    rintro e w1 ⟨rfl, n, rfl⟩
    go_wp2_with fail
    refine (l01Fine b _).mono ?_
    rintro e w1 ⟨rfl, m, rfl⟩
    go_wp2_with fail
    go_ret
    refine ⟨rfl, ?_⟩
    exact ⟨_, rfl⟩

/-- the two parts of a quotient -/
def Q (a b c d x y : Nat) : Prop := (absGe c d = true ∧ quoGe a b c d x y) ∨ (absGe c d = false ∧ quoLt a b c d x y)
/-- what Ratio does not take -/
def bad (a b c d : Nat) : Prop := (fin D a && fin D b) = false ∨ (fin D c && fin D d) = false ∨ (rg D c = 0 ∧ rg D d = 0)
def RatioE (a b c d : Nat) (w : World) (e : Ending) (w' : World) : Prop :=
  ∃ (x y : Nat) (ok : Bool) (n : Nat), e = .returned (.tuple #[.complex .f64 x y, .bool ok]) ∧ w' = w.drewN n ∧ x < 2 ^ 64 ∧ y < 2 ^ 64 ∧
    ((bad a b c d ∧ ok = false) ∨ (¬ bad a b c d ∧ ∃ p q, Q a b c d p q ∧ ok = (fin D p && fin D q) ∧ (ok = true → x = p ∧ y = q)))

set_option maxHeartbeats 1000000 in
theorem ratio (a b c d : Nat) (ha : a < 2 ^ 64) (hb : b < 2 ^ 64) (hc : c < 2 ^ 64) (hd : d < 2 ^ 64) (w : World) :
    Calls Try.prog 27 #[.complex .f64 a b, .complex .f64 c d] w (RatioE a b c d w) := by
  cases h1 : (fin D a && fin D b) with
  | false =>
    go_enter Try.func27, Try.ntmps27
    go_wp2_with fail
    refine (impl_IsFinite a b ha hb _).mono ?_
    rintro e w1 ⟨rfl, rfl⟩
    go_wp2_with fail
    go_ret2
    exact ⟨_, _, _, 0, rfl, rfl, by omega, by omega, Or.inl ⟨Or.inl h1, rfl⟩⟩
  | true =>
  cases h2 : (fin D c && fin D d) with
  | false =>
    go_enter Try.func27, Try.ntmps27
    go_wp2_with fail
    refine (impl_IsFinite a b ha hb _).mono ?_
    rintro e w1 ⟨rfl, rfl⟩
    go_wp2_with fail
    refine (impl_IsFinite c d hc hd _).mono ?_
    rintro e w1 ⟨rfl, rfl⟩
    go_wp2_with fail
    go_ret2
    exact ⟨_, _, _, 0, rfl, rfl, by omega, by omega, Or.inl ⟨Or.inr (Or.inl h2), rfl⟩⟩
  | true =>
    have fa : fin D a = true ∧ fin D b = true := by simpa using h1
    have fc : fin D c = true ∧ fin D d = true := by simpa using h2
    by_cases hz : rg D c = 0 ∧ rg D d = 0
    · have t1 := ordEq (num_of_fin fc.1) (num_zero D) (by rw [key_zero, key_eq_zero]; exact hz.1)
      have t2 := ordEq (num_of_fin fc.2) (num_zero D) (by rw [key_zero, key_eq_zero]; exact hz.2)
      have HZ := Lib.hid hz
      clear fa fc hz
      go_enter Try.func27, Try.ntmps27
      go_wp2_with fail
      refine (impl_IsFinite a b ha hb _).mono ?_
      rintro e w1 ⟨rfl, rfl⟩
      go_wp2_with fail
      refine (impl_IsFinite c d hc hd _).mono ?_
      rintro e w1 ⟨rfl, rfl⟩
      go_wp2_with fail
      go_ret2
      exact ⟨_, _, _, 0, rfl, rfl, by omega, by omega, Or.inl ⟨Or.inr (Or.inr HZ.out), rfl⟩⟩
    · have hz' : (D.order c 0 == some .eq && D.order d 0 == some .eq) = false := by
        rw [ord (num_of_fin fc.1) (num_zero D), ord (num_of_fin fc.2) (num_zero D), key_zero]
        by_cases h0 : rg D c = 0
        · have : key D d ≠ 0 := by rw [Ne, key_eq_zero]; exact fun h => hz ⟨h0, h⟩
          rcases Int.lt_or_gt_of_ne this with h | h
          · rw [cmp_lt h]; simp
          · rw [cmp_gt h]; simp
        · have : key D c ≠ 0 := by rw [Ne, key_eq_zero]; exact h0
          rcases Int.lt_or_gt_of_ne this with h | h
          · rw [cmp_lt h]; simp
          · rw [cmp_gt h]; simp
      obtain ⟨x, y, m, hq, lx, ly, hQ⟩ := quotient_run Try.prog fa.1 fa.2 fc.1 fc.2 hz w
      have hrun := run_quo Try.prog 43 hq
      have HQ : Hid (Q a b c d x y) := hQ
      have HB : Hid (¬ bad a b c d) := by
        rintro (h | h | h)
        · rw [h1] at h; cases h
        · rw [h2] at h; cases h
        · exact hz h
      clear fa fc hz hq hQ
      cases h3 : (fin D x && fin D y) with
      | false =>
        go_enter Try.func27, Try.ntmps27
        go_wp2_with fail
        refine (impl_IsFinite a b ha hb _).mono ?_
        rintro e w1 ⟨rfl, rfl⟩
        go_wp2_with fail
        refine (impl_IsFinite c d hc hd _).mono ?_
        rintro e w1 ⟨rfl, rfl⟩
        go_wp2_with fail
        refine (impl_IsFinite x y lx ly _).mono ?_
        rintro e w1 ⟨rfl, rfl⟩
        go_wp2_with fail
        go_ret2
        exact ⟨_, _, _, m, rfl, rfl, by omega, by omega, Or.inr ⟨HB.out, x, y, HQ.out, h3.symm, fun h => by cases h⟩⟩
      | true =>
        go_enter Try.func27, Try.ntmps27
        go_wp2_with fail
        refine (impl_IsFinite a b ha hb _).mono ?_
        rintro e w1 ⟨rfl, rfl⟩
        go_wp2_with fail
        refine (impl_IsFinite c d hc hd _).mono ?_
        rintro e w1 ⟨rfl, rfl⟩
        go_wp2_with fail
        refine (impl_IsFinite x y lx ly _).mono ?_
        rintro e w1 ⟨rfl, rfl⟩
        go_wp2_with fail
        go_ret2
        exact ⟨_, _, _, m, rfl, rfl, lx, ly, Or.inr ⟨HB.out, x, y, HQ.out, h3.symm, fun _ => ⟨rfl, rfl⟩⟩⟩

/-! the plain facts -/
abbrev one : Nat := 4607182418800017408
theorem rg_one : rg D one = one := by unfold rg; rw [D_W]; exact Nat.mod_eq_of_lt (by decide)
theorem fin_one : fin D one = true := one_fin
theorem dn_D : dn D = 1074 := by unfold dn; rw [D_L]; rfl
theorem mg_one : mg D (rg D one) = 2 ^ dn D := by
  obtain ⟨q, hq, e⟩ : ∃ q, q = 1022 ∧ one = q * D.binade + D.binade := ⟨1022, rfl, by rw [D_B]⟩
  rw [rg_one, e, mg_kept D q D.binade (by omega) (Or.inr (Nat.le_refl _)), D_B, show (4503599627370496 : Nat) = 2 ^ 52 from rfl, ← Nat.pow_add, dn_D]
  congr 1; omega

theorem div_one {x : Nat} (hx : fin D x = true) : ∃ r, floatBits .quo .f64 x one = some r ∧ key D r = key D x ∧ fin D r = true := by
  have hx' := fin_iff.1 hx
  obtain ⟨r, e, R⟩ := div_fin (f := D) (fine .f64) hx' (fin_iff.1 fin_one) one_rg
  rw [mg_one] at R
  have hr : r = rg D x := R.eq_of (Nat.two_pow_pos _) (Nat.mul_comm _ _)
  subst hr
  have hm : min (rg D x) D.infRung = rg D x := by omega
  refine ⟨_, e, ?_, ?_⟩
  · unfold key; rw [out_rg, out_ng, hm, one_ng, Bool.xor_false]
  · rw [fin_iff, out_rg, hm]; exact hx'

theorem mul_zero_ {x z : Nat} (hx : fin D x = true) (hz : rg D z = 0) : ∃ r, floatBits .mul .f64 x z = some r ∧ rg D r = 0 := by
  have hI : 0 < D.infRung := by rw [D_I]; omega
  obtain ⟨r, e, R⟩ := mul_fin (f := D) (fine .f64) (fin_iff.1 hx) (y := z) (by omega)
  have hr : r = 0 := R.eq_of (Nat.two_pow_pos _) (by rw [hz, mg_zero]; simp)
  subst hr
  exact ⟨_, e, by rw [out_rg]; simp⟩

theorem zero_div_one : ∃ r, floatBits .quo .f64 0 one = some r ∧ rg D r = 0 := by
  obtain ⟨r, e, k, _⟩ := div_one (x := 0) (by rw [fin_iff, rg_zero, D_I]; omega)
  exact ⟨r, e, by rw [← key_eq_zero, k, key_zero]⟩

theorem sv_zero {z : Nat} (h : rg D z = 0) : sv D z = 0 := by unfold sv; rw [h, mg_zero]; cases ng D z <;> rfl
theorem sv_key {x : Nat} : (sv D x < 0 ↔ key D x < 0) ∧ (sv D x = 0 ↔ key D x = 0) := by
  have h0 := mg_lt_iff (f := D) (r := 0) (s := rg D x)
  rw [mg_zero] at h0
  unfold sv key sg
  cases ng D x <;> simp <;> omega

theorem near_self {x r : Nat} (hx : fin D x = true) {s : Bool} (hR : Rnd D (sv D x).natAbs 1 r) (hs : sv D x ≠ 0 → s = decide (sv D x < 0)) : key D (out D s r) = key D x ∧ fin D (out D s r) = true := by
  have hx' := fin_iff.1 hx
  have hr : r = rg D x := hR.eq_of (by omega) (by rw [Nat.one_mul]; exact natAbs_sg _ _)
  subst hr
  have hm : min (rg D x) D.infRung = rg D x := by omega
  constructor
  · by_cases h0 : sv D x = 0
    · have h1 : key D x = 0 := sv_key.2.1 h0
      rw [h1, key_eq_zero, out_rg, hm]; exact key_eq_zero.1 h1
    · have h1 := hs h0
      have h2 : s = ng D x := by
        rw [h1]
        have h3 : key D x ≠ 0 := fun h => h0 (sv_key.2.2 h)
        cases hn : ng D x
        · have : ¬ key D x < 0 := by rw [key_neg]; simp [hn]
          have : ¬ sv D x < 0 := fun h => this (sv_key.1.1 h)
          simpa using this
        · have : key D x < 0 := by rw [key_neg]; exact ⟨hn, fun h => h3 (key_eq_zero.2 h)⟩
          have : sv D x < 0 := sv_key.1.2 this
          simpa using this
      unfold key; rw [out_rg, out_ng, hm, h2]
  · rw [fin_iff, out_rg, hm]; exact hx'

theorem add_zero_ {x z : Nat} (hx : fin D x = true) (hz : rg D z = 0) : ∃ r, floatBits .add .f64 x z = some r ∧ key D r = key D x ∧ fin D r = true := by
  have hI : 0 < D.infRung := by rw [D_I]; omega
  obtain ⟨r, e, R⟩ := add_fin (f := D) (fine .f64) (fin_iff.1 hx) (y := z) (by omega)
  rw [sv_zero hz, Int.add_zero] at e R
  have := near_self hx (s := if sv D x = 0 then ng D x && ng D z else decide (sv D x < 0)) R (fun h => by rw [if_neg h])
  exact ⟨_, e, this⟩
theorem sub_zero_ {x z : Nat} (hx : fin D x = true) (hz : rg D z = 0) : ∃ r, floatBits .sub .f64 x z = some r ∧ key D r = key D x ∧ fin D r = true := by
  have hI : 0 < D.infRung := by rw [D_I]; omega
  obtain ⟨r, e, R⟩ := sub_fin (f := D) (fine .f64) (fin_iff.1 hx) (y := z) (by omega)
  rw [sv_zero hz, Int.sub_zero] at e R
  have := near_self hx (s := if sv D x = 0 then ng D x && !ng D z else decide (sv D x < 0)) R (fun h => by rw [if_neg h])
  exact ⟨_, e, this⟩

theorem Res.some_ {o : Option Nat} {z r : Nat} (h : Res .f64 o z) (e : o = some r) : z = r := by
  rcases h with ⟨h, _⟩ | ⟨h, _⟩
  · rw [e] at h; cases h; rfl
  · rw [e] at h; cases h

/-- a finite number over 1 -/
theorem over_one {a b x y : Nat} (fa : fin D a = true) (fb : fin D b = true) (h : Q a b one 0 x y) : key D x = key D a ∧ key D y = key D b ∧ fin D x = true ∧ fin D y = true := by
  have hge : absGe one 0 = true := by kernel_rfl
  rcases h with ⟨_, h⟩ | ⟨h, _⟩
  · obtain ⟨ρ, rd, den, br, n1, ar, n2, q1, q2, q3, q4, q5, q6, q7, q8, q9⟩ := h
    obtain ⟨r1, e1, z1⟩ := zero_div_one
    have := q1.some_ e1; subst this
    obtain ⟨r2, e2, z2⟩ := mul_zero_ (x := ρ) (z := 0) (by rw [fin_iff, z1, D_I]; omega) (rg_zero D)
    have := q2.some_ e2; subst this
    obtain ⟨r3, e3, k3, f3⟩ := add_zero_ fin_one z2
    have := q3.some_ e3; subst this
    have hd3 : den = one := by
      have l3 : den < 2 ^ D.width := lt_of_wf (floatBits_wf e3)
      exact word_of_key (f := D) l3 (by decide) k3 (by
        intro h0
        have h1 := key_eq_zero.2 h0
        rw [k3] at h1
        exact one_rg (key_eq_zero.1 h1))
    subst hd3
    obtain ⟨r4, e4, z4⟩ := mul_zero_ fb z1
    have := q4.some_ e4; subst this
    obtain ⟨r5, e5, k5, f5⟩ := add_zero_ fa z4
    have := q5.some_ e5; subst this
    obtain ⟨r6, e6, k6, f6⟩ := div_one f5
    have := q6.some_ e6; subst this
    obtain ⟨r7, e7, z7⟩ := mul_zero_ fa z1
    have := q7.some_ e7; subst this
    obtain ⟨r8, e8, k8, f8⟩ := sub_zero_ fb z7
    have := q8.some_ e8; subst this
    obtain ⟨r9, e9, k9, f9⟩ := div_one f8
    have := q9.some_ e9; subst this
    exact ⟨k6.trans k5, k9.trans k8, f6, f9⟩
  · rw [hge] at h; cases h

/-- a word over itself is 1, if it is a number -/
theorem self_div {x e : Nat} (h : floatBits .quo .f64 x x = some e) : key D e = key D one := by
  have hn : num D x = true := by
    cases hn : num D x with
    | true => rfl
    | false => rw [arith_nan_l hn] at h; cases h
  have hi : rg D x < D.infRung := by
    rcases Nat.lt_or_ge (rg D x) D.infRung with h1 | h1
    · exact h1
    · exfalso
      have h2 : rg D x = D.infRung := by have := num_iff.1 hn; omega
      have e1 := read_inf D (fine .f64).e h2
      have : D.div x x = none := by
        unfold Format.div
        rw [e1]; rfl
      rw [show floatBits .quo .f64 x x = D.div x x from rfl, this] at h; cases h
  have h0 : rg D x ≠ 0 := by
    intro h0
    obtain ⟨m, i, e1, h1⟩ := read_fin D hi
    have hm : m = 0 := by
      rw [h0, mg_zero] at h1
      rcases Nat.mul_eq_zero.1 h1 with h | h
      · exact h
      · have := Nat.two_pow_pos i; omega
    subst hm
    have : D.div x x = none := by
      unfold Format.div
      rw [e1]; simp [Datum.quotient]
    rw [show floatBits .quo .f64 x x = D.div x x from rfl, this] at h; cases h
  obtain ⟨r, e1, R⟩ := div_fin (f := D) (fine .f64) hi hi h0
  have hpos : 0 < mg D (rg D x) := by
    have := mg_lt (f := D) (show 0 < rg D x by omega); omega
  have hr : r = rg D one := R.eq_of hpos (by rw [mg_one])
  rw [show floatBits .quo .f64 x x = D.div x x from rfl, e1] at h
  cases h
  subst hr
  unfold key
  rw [out_rg, out_ng, Bool.xor_self, one_ng]
  have : rg D one < D.infRung := fin_iff.1 fin_one
  rw [show min (rg D one) D.infRung = rg D one by omega]

theorem add_comm_bits (x y : Nat) : floatBits .add .f64 x y = floatBits .add .f64 y x := by
  show D.add x y = D.add y x
  unfold Format.add
  congr 1
  cases D.read x <;> cases D.read y <;> simp only [Datum.sum]
  · rename_i s m i t n j
    rw [Int.min_comm i j, Int.add_comm (signed s m _), Bool.and_comm]
  · rename_i s t
    by_cases h : s = t
    · subst h; rfl
    · rw [if_neg h, if_neg (fun e => h e.symm)]

/-- a finite number over itself: the real part is 1, if it is a number -/
theorem over_self {a b x y : Nat} (h : Q a b a b x y) (hx : num D x = true) : key D x = key D one := by
  have tail : ∀ {o p : Option Nat} {n1 den : Nat}, Res .f64 o n1 → Res .f64 p den → o = p → Res .f64 (floatBits .quo .f64 n1 den) x → key D x = key D one := by
    intro o p n1 den r1 r2 e q
    subst e
    rcases r1 with ⟨h1, n1'⟩ | ⟨h1, n1'⟩
    · have := r2.some_ h1; subst this
      rcases q with ⟨h3, _⟩ | ⟨_, h3⟩
      · exact self_div h3
      · rw [show num D x = false from h3] at hx; cases hx
    · rw [arith_nan_l n1'] at q
      rcases q with ⟨h3, _⟩ | ⟨_, h3⟩
      · cases h3
      · rw [show num D x = false from h3] at hx; cases hx
  rcases h with ⟨_, h⟩ | ⟨_, h⟩
  · obtain ⟨ρ, rd, den, br, n1, ar, n2, q1, q2, q3, q4, q5, q6, q7, q8, q9⟩ := h
    rw [mul_comm_bits .f64 b ρ] at q4
    rcases q2 with ⟨h2, _⟩ | ⟨h2, nn⟩
    · have := q4.some_ h2; subst this
      exact tail q5 q3 rfl q6
    · exfalso
      rw [show floatBits .add .f64 a rd = none from arith_nan_r nn a] at q3
      rcases q3 with ⟨h3, _⟩ | ⟨_, h3⟩
      · cases h3
      · rw [show floatBits .quo .f64 n1 den = none from arith_nan_r h3 n1] at q6
        rcases q6 with ⟨h6, _⟩ | ⟨_, h6⟩
        · cases h6
        · rw [show num D x = false from h6] at hx; cases hx
  · obtain ⟨ρ, rc, den, ar, n1, br, n2, q1, q2, q3, q4, q5, q6, q7, q8, q9⟩ := h
    rw [mul_comm_bits .f64 a ρ] at q4
    rcases q2 with ⟨h2, _⟩ | ⟨h2, nn⟩
    · have := q4.some_ h2; subst this
      exact tail q5 q3 (add_comm_bits _ _) q6
    · exfalso
      rw [show floatBits .add .f64 b rc = none from arith_nan_r nn b] at q3
      rcases q3 with ⟨h3, _⟩ | ⟨_, h3⟩
      · cases h3
      · rw [show floatBits .quo .f64 n1 den = none from arith_nan_r h3 n1] at q6
        rcases q6 with ⟨h6, _⟩ | ⟨_, h6⟩
        · cases h6
        · rw [show num D x = false from h6] at hx; cases hx
end Go.Proofs.Ytoejigbeegkfoaa.same
