/- Contracts of the draws of complex numbers: each gives some complex number. -/
import Derived.Test.YtoejigbeegkfoaaDrawSi
namespace Go.Proofs.Ytoejigbeegkfoaa.draw
open Go.RowKit base Fl same
set_option linter.unusedVariables false

set_option maxHeartbeats 1000000 in
set_option maxRecDepth 100000 in
theorem double (w0 w : World) (g : Nat) (hcur : Cur w0 w g) : Calls Try.prog 51 #[.pointer (some ⟨g, 0, none⟩)] w (Ends (IsW .f64) w0 w g) := by
  have HC := Lib.hid hcur
  clear hcur
  go_enter Try.func51, Try.ntmps51
  go_wp2_with fail
  refine (below w0 _ g HC.out 10 (by omega)).mono ?_
  rintro e w1 ⟨v, rfl, ⟨r, rfl, r0, r1⟩, c1, g1⟩
  have HC1 := Lib.hid c1
  have HG1 := Lib.hid g1
  clear c1 g1
  have hr : r = 0 ∨ r = 1 ∨ r = 2 ∨ r = 3 ∨ r = 4 ∨ 5 ≤ r := by omega
  rcases hr with rfl | rfl | rfl | rfl | rfl | hr
  · go_wp2_with fail
    go_ret
    exact ⟨_, rfl, ⟨_, rfl, by decide⟩, HC1.out, HG1.out⟩
  · go_wp2_with fail
    go_ret
    exact ⟨_, rfl, ⟨_, rfl, by decide⟩, HC1.out, HG1.out⟩
  · go_wp2_with fail
    refine (below w0 _ g HC1.out 1000000 (by omega)).mono ?_
    rintro e w2 ⟨v, rfl, ⟨x, rfl, x0, x1⟩, c2, g2⟩
    have HC2 := Lib.hid c2
    have HG2 := Lib.hid (grown_trans HG1.out g2)
    clear c2 g2
    obtain ⟨z, m, hrun, hz⟩ := arith_w Try.prog (op := .quo) (by simp) .f64 (floatOfInt .f64 (x - 500000)) 4613937818241073152 46 w2
    have HZ := Lib.hid hz
    clear hz
    go_wp2_with fail
    go_ret
    exact ⟨_, rfl, ⟨_, rfl, HZ.out⟩, HC2.out.drewN m, grown_drewN HG2.out m⟩
  · go_wp2_with fail
    refine (single w0 _ g HC1.out).mono ?_
    rintro e w2 ⟨v, rfl, ⟨x, rfl, hx⟩, c2, g2⟩
    have HC2 := Lib.hid c2
    have HG2 := Lib.hid (grown_trans HG1.out g2)
    clear c2 g2
    obtain ⟨y, n, hrun, hy⟩ := conv_w Try.prog .f32 .f64 x hx 37 46 (by kernel_rfl) Try.underlying46 w2
    have HY := Lib.hid hy
    clear hx hy
    obtain ⟨z, m, hrun2, hz⟩ := arith_at Try.prog (op := .mul) (by simp) .f64 y 9094988921128908188 46 w2 n
    have HZ := Lib.hid hz
    clear hz
    go_wp2_with fail
    go_ret
    exact ⟨_, rfl, ⟨_, rfl, HZ.out⟩, HC2.out.drewN m, grown_drewN HG2.out m⟩
  · go_wp2_with fail
    refine (mild w0 _ g HC1.out).mono ?_
    rintro e w2 ⟨v, rfl, ⟨x, rfl, hx⟩, c2, g2⟩
    have HC2 := Lib.hid c2
    have HG2 := Lib.hid (grown_trans HG1.out g2)
    clear c2 g2
    obtain ⟨y, n, hrun, hy⟩ := conv_w Try.prog .f32 .f64 x hx 37 46 (by kernel_rfl) Try.underlying46 w2
    have HY := Lib.hid hy
    clear hx hy
    obtain ⟨z, m, hrun2, hz⟩ := arith_at Try.prog (op := .mul) (by simp) .f64 y 20240225330731 46 w2 n
    have HZ := Lib.hid hz
    clear hz
    go_wp2_with fail
    go_ret
    exact ⟨_, rfl, ⟨_, rfl, HZ.out⟩, HC2.out.drewN m, grown_drewN HG2.out m⟩
  · have t0 : (r == 0) = false := by simp; omega
    have t1 : (r == 1) = false := by simp; omega
    have t2 : (r == 2) = false := by simp; omega
    have t3 : (r == 3) = false := by simp; omega
    have t4 : (r == 4) = false := by simp; omega
    go_wp2_with fail
    refine (single w0 _ g HC1.out).mono ?_
    rintro e w2 ⟨v, rfl, ⟨x, rfl, hx⟩, c2, g2⟩
    have HC2 := Lib.hid c2
    have HG2 := Lib.hid (grown_trans HG1.out g2)
    clear c2 g2
    obtain ⟨y, n, hrun, hy⟩ := conv_w Try.prog .f32 .f64 x hx 37 46 (by kernel_rfl) Try.underlying46 w2
    have HY := Lib.hid hy
    clear hx hy
    go_wp2_with fail
    go_ret
    exact ⟨_, rfl, ⟨_, rfl, HY.out⟩, HC2.out.drewN n, grown_drewN HG2.out n⟩

/-- some complex number of float64 -/
def IsC (v : Value) : Prop := ∃ r i, v = .complex .f64 r i ∧ r < 2 ^ 64 ∧ i < 2 ^ 64

theorem complexD (w0 w : World) (g : Nat) (hcur : Cur w0 w g) : Calls Try.prog 40 #[.pointer (some ⟨g, 0, none⟩)] w (Ends IsC w0 w g) := by
  have HC := Lib.hid hcur
  clear hcur
  go_enter Try.func40, Try.ntmps40
  go_wp2_with fail
  refine (double w0 _ g HC.out).mono ?_
  rintro e w1 ⟨v, rfl, ⟨r, rfl, hr⟩, c1, g1⟩
  have HC1 := Lib.hid c1
  have HG1 := Lib.hid g1
  have HR := Lib.hid hr
  clear c1 g1 hr
  go_wp2_with fail
  refine (double w0 _ g HC1.out).mono ?_
  rintro e w2 ⟨v, rfl, ⟨i, rfl, hi⟩, c2, g2⟩
  have HC2 := Lib.hid c2
  have HG2 := Lib.hid (grown_trans HG1.out g2)
  have HI := Lib.hid hi
  clear c2 g2 hi
  go_wp2_with fail
  go_ret
  exact ⟨_, rfl, ⟨_, _, rfl, HR.out, HI.out⟩, HC2.out, HG2.out⟩

theorem mildComplex (w0 w : World) (g : Nat) (hcur : Cur w0 w g) : Calls Try.prog 50 #[.pointer (some ⟨g, 0, none⟩)] w (Ends IsC w0 w g) := by
  have HC := Lib.hid hcur
  clear hcur
  go_enter Try.func50, Try.ntmps50
  go_wp2_with fail
  refine (mild w0 _ g HC.out).mono ?_
  rintro e w1 ⟨v, rfl, ⟨r, rfl, hr⟩, c1, g1⟩
  have HC1 := Lib.hid c1
  have HG1 := Lib.hid g1
  clear c1 g1
  obtain ⟨y, n, hrun, hy⟩ := conv_w Try.prog .f32 .f64 r hr 37 46 (by kernel_rfl) Try.underlying46 w1
  have HY := Lib.hid hy
  clear hy hr
  go_wp2_with fail
  refine (mild w0 _ g (HC1.out.drewN n)).mono ?_
  rintro e w2 ⟨v, rfl, ⟨i, rfl, hi⟩, c2, g2⟩
  have HC2 := Lib.hid c2
  have HG2 := Lib.hid (grown_trans (grown_drewN HG1.out n) g2)
  clear c2 g2
  obtain ⟨z, m, hrun2, hz⟩ := conv_w Try.prog .f32 .f64 i hi 37 46 (by kernel_rfl) Try.underlying46 w2
  have HZ := Lib.hid hz
  clear hz hi
  go_wp2_with fail
  go_ret
  exact ⟨_, rfl, ⟨_, _, rfl, HY.out, HZ.out⟩, HC2.out.drewN m, grown_drewN HG2.out m⟩

/-- two complex numbers -/
def IsC2 (v : Value) : Prop := ∃ a b c d, v = .tuple #[.complex .f64 a b, .complex .f64 c d] ∧ a < 2 ^ 64 ∧ b < 2 ^ 64 ∧ c < 2 ^ 64 ∧ d < 2 ^ 64

theorem two (w0 w : World) (g : Nat) (hcur : Cur w0 w g) : Calls Try.prog 39 #[.pointer (some ⟨g, 0, none⟩)] w (Ends IsC2 w0 w g) := by
  have HC := Lib.hid hcur
  clear hcur
  go_enter Try.func39, Try.ntmps39
  go_wp2_with fail
  refine (once w0 _ g HC.out 2 (by omega)).mono ?_
  rintro e w1 ⟨v, rfl, ⟨b, rfl⟩, c1, g1⟩
  have HC1 := Lib.hid c1
  have HG1 := Lib.hid g1
  clear c1 g1
  cases b with
  | true =>
    go_wp2_with fail
    refine (mildComplex w0 _ g HC1.out).mono ?_
    rintro e w2 ⟨v, rfl, ⟨a, b, rfl, ha, hb⟩, c2, g2⟩
    have HC2 := Lib.hid c2
    have HG2 := Lib.hid (grown_trans HG1.out g2)
    have HA := Lib.hid ha
    have HB := Lib.hid hb
    clear c2 g2 ha hb
    go_wp2_with fail
    refine (mildComplex w0 _ g HC2.out).mono ?_
    rintro e w3 ⟨v, rfl, ⟨c, d, rfl, hc, hd⟩, c3, g3⟩
    have HC3 := Lib.hid c3
    have HG3 := Lib.hid (grown_trans HG2.out g3)
    have HCc := Lib.hid hc
    have HD := Lib.hid hd
    clear c3 g3 hc hd
    go_wp2_with fail
    go_ret2
    exact ⟨_, rfl, ⟨_, _, _, _, rfl, HA.out, HB.out, HCc.out, HD.out⟩, HC3.out, HG3.out⟩
  | false =>
    go_wp2_with fail
    refine (complexD w0 _ g HC1.out).mono ?_
    rintro e w2 ⟨v, rfl, ⟨a, b, rfl, ha, hb⟩, c2, g2⟩
    have HC2 := Lib.hid c2
    have HG2 := Lib.hid (grown_trans HG1.out g2)
    have HA := Lib.hid ha
    have HB := Lib.hid hb
    clear c2 g2 ha hb
    go_wp2_with fail
    refine (complexD w0 _ g HC2.out).mono ?_
    rintro e w3 ⟨v, rfl, ⟨c, d, rfl, hc, hd⟩, c3, g3⟩
    have HC3 := Lib.hid c3
    have HG3 := Lib.hid (grown_trans HG2.out g3)
    have HCc := Lib.hid hc
    have HD := Lib.hid hd
    clear c3 g3 hc hd
    go_wp2_with fail
    go_ret2
    exact ⟨_, rfl, ⟨_, _, _, _, rfl, HA.out, HB.out, HCc.out, HD.out⟩, HC3.out, HG3.out⟩

/-- two complex numbers drawn from the bytes -/
def TwoC (w : World) (e : Ending) (w' : World) : Prop := ∃ v, e = .returned v ∧ IsC2 v ∧ Below w.heap.size w w'
theorem drawSideOf (w : World) (A : Option Addr) (n c : Nat) (hb : Bytes w A n c) : Calls Try.prog 22 #[.slice A n c] w (TwoC w) := by
  have HB := Lib.hid hb
  clear hb
  go_enter Try.func22, Try.ntmps22
  go_wp2_with fail
  refine (new_ w A n c HB.out).mono ?_
  rintro e w1 ⟨rfl, c1⟩
  have HC1 := Lib.hid c1
  clear c1
  go_wp2_with fail
  refine (two w _ _ HC1.out).mono ?_
  rintro e w2 ⟨v, rfl, ⟨a, b, c, d, rfl, h1, h2, h3, h4⟩, c2, _⟩
  have HC2 := Lib.hid c2
  have HH : Hid (a < 2 ^ 64 ∧ b < 2 ^ 64 ∧ c < 2 ^ 64 ∧ d < 2 ^ 64) := ⟨h1, h2, h3, h4⟩
  clear c2 h1 h2 h3 h4
  go_wp2_with fail
  go_ret2
  exact ⟨_, rfl, ⟨_, _, _, _, rfl, HH.out⟩, HC2.out.below⟩
/-- one complex number drawn from the bytes -/
def OneC (w : World) (e : Ending) (w' : World) : Prop := ∃ a b, e = .returned (.complex .f64 a b) ∧ a < 2 ^ 64 ∧ b < 2 ^ 64 ∧ Below w.heap.size w w'
theorem drawConjugate (w : World) (A : Option Addr) (n c : Nat) (hb : Bytes w A n c) : Calls Try.prog 26 #[.slice A n c] w (OneC w) := by
  have HB := Lib.hid hb
  clear hb
  go_enter Try.func26, Try.ntmps26
  go_wp2_with fail
  refine (new_ w A n c HB.out).mono ?_
  rintro e w1 ⟨rfl, c1⟩
  have HC1 := Lib.hid c1
  clear c1
  go_wp2_with fail
  refine (complexD w _ _ HC1.out).mono ?_
  rintro e w2 ⟨v, rfl, ⟨a, b, rfl, h1, h2⟩, c2, _⟩
  have HC2 := Lib.hid c2
  have HH : Hid (a < 2 ^ 64 ∧ b < 2 ^ 64) := ⟨h1, h2⟩
  clear c2 h1 h2
  go_wp2_with fail
  go_ret
  exact ⟨_, _, rfl, HH.out.1, HH.out.2, HC2.out.below⟩
end Go.Proofs.Ytoejigbeegkfoaa.draw
