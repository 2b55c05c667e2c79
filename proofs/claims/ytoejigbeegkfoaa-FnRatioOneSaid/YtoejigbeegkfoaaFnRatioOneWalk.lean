/- The law FnRatioOne, walked: it returns true. -/
import Derived.Test.YtoejigbeegkfoaaRows
import Derived.Test.YtoejigbeegkfoaaDrawCx
import Derived.Test.YtoejigbeegkfoaaBig
import Derived.Test.YtoejigbeegkfoaaRatio
namespace Go.Proofs.Ytoejigbeegkfoaa.fnRatioOne
open Go.RowKit draw base same Fl
set_option linter.unusedVariables false

theorem not_bad_one {a b : Nat} (h : (fin D a && fin D b) = true) : ¬ bad a b one 0 := by
  rintro (h' | h' | ⟨h', _⟩)
  · rw [h] at h'; cases h'
  · rw [fin_one, show fin D 0 = true from by rw [fin_iff, rg_zero, D_I]; omega] at h'; cases h'
  · exact one_rg h'

theorem below_d {n : Nat} {w w' : World} (h : Below n w w') (k : Nat) : Below n w (w'.drewN k) := ⟨h.os, h.tape, h.output, h.size, h.block⟩

set_option maxHeartbeats 1000000 in
theorem walk (A : Option Addr) (n c : Nat) (w : World) (hb : Bytes w A n c) :
    Calls Try.prog 8 #[.slice A n c] w fun e w' => e = .returned (.bool true) ∧ Below w.heap.size w w' := by
  have HB := Lib.hid hb
  clear hb
  by_cases hbig : (n : Int) > 1048576
  · have hd : decide ((n : Int) > 1048576) = true := by simpa using hbig
    go_enter Try.func8, Try.ntmps8
    go_wp2_with fail
    refine (big A n c _).mono ?_
    rintro e w1 ⟨rfl, rfl⟩
    go_wp2_with fail
    go_ret
    exact ⟨rfl, Below.refl _ _⟩
  · have hd : decide ((n : Int) > 1048576) = false := by simpa using hbig
    go_enter Try.func8, Try.ntmps8
    go_wp2_with fail
    refine (big A n c _).mono ?_
    rintro e w1 ⟨rfl, rfl⟩
    go_wp2_with fail
    refine (drawConjugate w A n c HB.out).mono ?_
    rintro e w1 ⟨a, b, rfl, ha, hb, b1⟩
    have B1 := Lib.hid b1
    clear b1 hbig hd
    go_wp2_with fail
    refine (ratio a b a b ha hb ha hb _).mono ?_
    rintro e w2 ⟨x, y, ok, n1, rfl, rfl, lx, ly, h1⟩
    have H1 := Lib.hid h1
    clear h1
    go_wp2_with fail
    refine (ratio a b one 0 ha hb (by decide) (by decide) _).mono ?_
    rintro e w2 ⟨x1, y1, is, n2, rfl, rfl, lx1, ly1, h2⟩
    have H2 := Lib.hid h2
    clear h2
    go_wp2_with fail
    refine (spec_IsFinite a b _).mono ?_
    rintro e w2 ⟨rfl, n3, rfl⟩
    cases hf : (fin D a && fin D b) with
    | false =>
      have k1 : ok = false := by
        rcases H1.out with ⟨_, h⟩ | ⟨h, _⟩
        · exact h
        · exact absurd (Or.inl hf) h
      have k2 : is = false := by
        rcases H2.out with ⟨_, h⟩ | ⟨h, _⟩
        · exact h
        · exact absurd (Or.inl hf) h
      subst k1 k2
      go_wp2_with fail
      go_ret
      exact ⟨rfl, below_d B1.out _⟩
    | true =>
      have hf2 : fin D a = true ∧ fin D b = true := by simpa using hf
      obtain ⟨k2, kx, ky, fx, fy⟩ : is = true ∧ key D x1 = key D a ∧ key D y1 = key D b ∧ fin D x1 = true ∧ fin D y1 = true := by
        rcases H2.out with ⟨h, _⟩ | ⟨_, p, q, hq, hok, hxy⟩
        · exact absurd h (not_bad_one hf)
        · obtain ⟨e1, e2, e3, e4⟩ := over_one hf2.1 hf2.2 hq
          have : is = true := by rw [hok, e3, e4]; rfl
          obtain ⟨rfl, rfl⟩ := hxy this
          exact ⟨this, e1, e2, e3, e4⟩
      subst k2
      have t1 := ordEq (num_of_fin fx) (num_of_fin hf2.1) kx
      have t2 := ordEq (num_of_fin fy) (num_of_fin hf2.2) ky
      cases hk : ok with
      | false =>
        subst hk
        clear hf2 kx ky fx fy hf
        go_wp2_with fail
        go_ret
        exact ⟨rfl, below_d B1.out _⟩
      | true =>
        subst hk
        obtain ⟨hz, p, q, hq, hok, hxy⟩ : ¬ bad a b a b ∧ ∃ p q, Q a b a b p q ∧ true = (fin D p && fin D q) ∧ (true = true → x = p ∧ y = q) := by
          rcases H1.out with ⟨_, h⟩ | h
          · cases h
          · exact h
        obtain ⟨rfl, rfl⟩ := hxy rfl
        have hfp : fin D x = true ∧ fin D y = true := by simpa using hok.symm
        have t3 := ordEq (num_of_fin hfp.1) (num_of_fin fin_one) (over_self hq (num_of_fin hfp.1))
        have hz' : (D.order a 0 == some .eq && D.order b 0 == some .eq) = false := by
          rw [ord (num_of_fin hf2.1) (num_zero D), ord (num_of_fin hf2.2) (num_zero D), key_zero]
          by_cases h0 : rg D a = 0
          · have : key D b ≠ 0 := by rw [Ne, key_eq_zero]; exact fun h => hz (Or.inr (Or.inr ⟨h0, h⟩))
            rcases Int.lt_or_gt_of_ne this with h | h
            · rw [cmp_lt h]; simp
            · rw [cmp_gt h]; simp
          · have : key D a ≠ 0 := by rw [Ne, key_eq_zero]; exact h0
            rcases Int.lt_or_gt_of_ne this with h | h
            · rw [cmp_lt h]; simp
            · rw [cmp_gt h]; simp
        clear hf2 kx ky fx fy hf hq hok hxy hz
        go_wp2_with fail
        refine (impl_IsFinite x y lx ly _).mono ?_
        rintro e w4 ⟨rfl, rfl⟩
        rw [hfp.1, hfp.2]
        go_wp2_with fail
        go_ret
        exact ⟨rfl, below_d B1.out _⟩
end Go.Proofs.Ytoejigbeegkfoaa.fnRatioOne
