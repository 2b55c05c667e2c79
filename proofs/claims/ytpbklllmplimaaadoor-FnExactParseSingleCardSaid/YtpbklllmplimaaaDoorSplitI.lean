/- SplitSingle in package impl, walked. -/
import Derived.Test.YtpbklllmplimaaaDoorSplitS
import Derived.Test.YtpbklllmplimaaaDoorFrexp
import Derived.Test.YtpbklllmplimaaaDoorFinS
namespace Go.Proofs.YtpbklllmplimaaaDoor.same
open Go.RowKit Fl base Ieee
set_option linter.unusedVariables false

/-- what Frexp and Ldexp make of a single's float64 -/
theorem frexp_plain {z n d : Nat} (hz : isD z (n * 2 ^ (sh + d))) (n1 : 1 ≤ n) (n2 : n < 16777216) :
    4503599627370496 ≤ z ∧ ∃ M j : Nat, isD (frW z + 24 * 4503599627370496) (M * 2 ^ e64) ∧ ((z / 4503599627370496 : Nat) : Int) - 1022 - 24 = (j : Int) - 180 ∧ 0 < M ∧ M < 16777216 ∧ M * 2 ^ j = n * 2 ^ d * 2 ^ 31 := by
  have hI : D.infRung = 9218868437227405312 := D_I
  have l1 : 4503599627370496 ≤ z := by
    rcases Nat.lt_or_ge z 4503599627370496 with h | h
    · exfalso
      have h2 : mg D z = z := by unfold mg; rw [D_B, if_pos h]
      rw [hz.2] at h2
      have h3 : 2 ^ 52 ≤ n * 2 ^ (sh + d) := Nat.le_trans (Nat.pow_le_pow_right (by omega) (by rw [sh_eq]; omega)) (Nat.le_mul_of_pos_left _ n1)
      omega
    · exact h
  refine ⟨l1, ?_⟩
  obtain ⟨c, hc⟩ : ∃ c, c = 4503599627370496 + z % 4503599627370496 := ⟨_, rfl⟩
  obtain ⟨E, hE⟩ : ∃ E, z / 4503599627370496 = E := ⟨_, rfl⟩
  have hE1 : 1 ≤ E := by rw [← hE]; exact (Nat.one_le_div_iff (by omega)).2 l1
  have hm : c * 2 ^ (E - 1) = n * 2 ^ (sh + d) := by
    rw [← hz.2]; unfold mg; rw [D_B, if_neg (by omega), hE, hc]
  have hc1 : 2 ^ 52 ≤ c := by omega
  have hc2 : c < 2 ^ 53 := by have := Nat.mod_lt z (show 0 < 4503599627370496 by omega); omega
  -- the digits are few
  have hlt : E - 1 + 29 ≤ sh + d := by
    have h1 : 2 ^ 52 * 2 ^ (E - 1) ≤ c * 2 ^ (E - 1) := Nat.mul_le_mul_right _ hc1
    have h2 : n * 2 ^ (sh + d) < 2 ^ 24 * 2 ^ (sh + d) := Nat.mul_lt_mul_of_pos_right (by omega) (Nat.two_pow_pos _)
    have h3 : 2 ^ 52 * 2 ^ (E - 1) < 2 ^ 24 * 2 ^ (sh + d) := by omega
    rw [← Nat.pow_add, ← Nat.pow_add] at h3
    have := pow_lt_of h3
    omega
  obtain ⟨t, ht⟩ : ∃ t, sh + d = E - 1 + 29 + t := ⟨sh + d - (E - 1 + 29), by omega⟩
  have hcn : c = n * 2 ^ t * 2 ^ 29 := by
    rw [ht, show E - 1 + 29 + t = t + 29 + (E - 1) by omega, Nat.pow_add, ← Nat.mul_assoc, Nat.pow_add, ← Nat.mul_assoc] at hm
    exact Nat.eq_of_mul_eq_mul_right (Nat.two_pow_pos _) hm
  have hEl : 866 ≤ E := by
    have h1 : c * 2 ^ (E - 1) < 2 ^ 53 * 2 ^ (E - 1) := Nat.mul_lt_mul_of_pos_right hc2 (Nat.two_pow_pos _)
    rw [hm] at h1
    have h2 : 2 ^ (sh + d) ≤ n * 2 ^ (sh + d) := Nat.le_mul_of_pos_left _ n1
    have h3 : 2 ^ (sh + d) < 2 ^ 53 * 2 ^ (E - 1) := by omega
    rw [← Nat.pow_add] at h3
    have := pow_lt_of h3
    rw [sh_eq] at this
    omega
  have hM : 0 < n * 2 ^ t := Nat.mul_pos n1 (Nat.two_pow_pos _)
  generalize hMM : n * 2 ^ t = M at *
  refine ⟨M, E - 866, ⟨?_, ?_⟩, ?_, hM, ?_, ?_⟩
  · rw [hI]; unfold frW; have := Nat.mod_lt z (show 0 < 4503599627370496 by omega); omega
  · have e1 : frW z + 24 * 4503599627370496 = 1045 * 4503599627370496 + c := by unfold frW; omega
    rw [e1]
    exact mg_at (d := 1045) (c := c) (k := 29) (q := M) (e := e64) hcn (by omega) (by omega) (by rw [e64_eq])
  · omega
  · omega
  · rw [← hMM, Nat.mul_assoc, ← Nat.pow_add, Nat.mul_assoc, ← Nat.pow_add]
    have e2 : t + (E - 866) = d + 31 := by rw [sh_eq] at ht; omega
    rw [e2]

set_option maxRecDepth 100000 in
set_option maxHeartbeats 2000000 in
theorem impl_SplitSingle (x : Nat) (hx : x < 2 ^ 32) (w : World) : Calls Tryd.prog 32 #[.float .f32 x] w (SplitE x w) := by
  have hs32 : (Tryd.prog.underlying 22).isSome = true := by rw [Tryd.underlying22]; rfl
  have hs64 : (Tryd.prog.underlying 26).isSome = true := by rw [Tryd.underlying26]; rfl
  have hs64f := Tryd.underlying26
  cases hf : fin S x with
  | false =>
    have HSP := Lib.hid (Split.no hf)
    have HF := Lib.hid hf
    clear hf
    go_enter Tryd.func32, Tryd.ntmps32
    go_wp2_with fail
    refine (finS x _).mono ?_
    rintro en w1 ⟨rfl, p, rfl⟩
    rw [HF.out]
    go_wp2_with fail
    go_ret3
    exact ⟨_, _, _, rfl, HSP.out, p, rfl⟩
  | true =>
  have HF := Lib.hid hf
  by_cases hz0 : rg S x = 0
  · have HSP := Lib.hid (Split.zero hf hz0)
    have ho : S.order x 0 = some .eq := ordEq (k := .f32) (num_of_fin hf) (num_zero _) (by rw [key_zero]; exact key_eq_zero.2 hz0)
    clear hz0 hf
    go_enter Tryd.func32, Tryd.ntmps32
    go_wp2_with fail
    refine (finS x _).mono ?_
    rintro en w1 ⟨rfl, p, rfl⟩
    rw [HF.out]
    go_wp2_with fail
    go_ret3
    exact ⟨_, _, _, rfl, HSP.out, p, rfl⟩
  · have h1 := (up_num (num_of_fin hf)).1
    have h4 := (up_num (num_of_fin hf)).2.2.2
    have hcv : ∀ W : World, (convert 22 26 (.float .f32 x)).run Tryd.prog W = .ok (.float .f64 (up x)) W := fun W => run_convert_float_float W 22 26 .f32 .f64 x _ hs32 hs64f h1
    have ho : S.order x 0 = some .gt ∨ S.order x 0 = some .lt := by
      rcases Int.lt_trichotomy (key S x) 0 with h | h | h
      · exact Or.inr (ordLt (k := .f32) (num_of_fin hf) (num_zero _) (by rw [key_zero]; exact h))
      · exact absurd (key_eq_zero.1 h) hz0
      · exact Or.inl (ordGt (k := .f32) (num_of_fin hf) (num_zero _) (by rw [key_zero]; exact h))
    obtain ⟨n, d, hnd, n1, n2, d1, hcan⟩ := canon hf hz0
    have hA : isD (absW x) (n * 2 ^ (sh + d)) := by
      have := absW_isD hf
      rw [hnd, Nat.mul_assoc, ← Nat.pow_add, Nat.add_comm d] at this
      exact this
    obtain ⟨l1, M, j, hD, he, hM0, hM1, hMj⟩ := frexp_plain hA n1 n2
    have hti := toInt_whole hD hM1
    have q3 := fun W : World => run_convert_float_int (P := Tryd.prog) W 26 3 .f64 .i64 _ _ hs64 Tryd.underlying3 hti
    have HFX := Lib.hid hf; have HZ0 := Lib.hid hz0; have HND := Lib.hid hnd
    have HMJ0 := Lib.hid hMj; have HE := Lib.hid he; have HA := Lib.hid hA; have H4 := Lib.hid h4; have HL1 := Lib.hid l1
    have hfr : Hid (4602678819172646912 ≤ frW (absW x) ∧ frW (absW x) < 4607182418800017408) := by
      unfold frW; exact ⟨by omega, by omega⟩
    have hEb : Hid (((absW x / 4503599627370496 : Nat) : Int) ≤ 4096) := by
      show _ ≤ _
      have := HA.out.1; rw [D_I] at this; omega
    obtain ⟨ev, hev⟩ : ∃ ev : Int, ((absW x / 4503599627370496 : Nat) : Int) - 1022 = ev := ⟨_, rfl⟩
    have HEV := Lib.hid hev
    have ev0 : -1022 ≤ ev := by omega
    have ev1 : ev ≤ 4096 := by have := hEb.out; omega
    have HEJ : Hid (ev - 24 = (j : Int) - 180) := by have := HE.out; show _ = _; omega
    have hj0 : j ≤ 5000 := by have := HEJ.out; omega
    clear h1 h4 hf hz0 hnd hA l1 hD he hMj hti hev d1 hcan hEb
    rcases ho with ho | ho
    all_goals
      go_enter Tryd.func32, Tryd.ntmps32
      go_wp2_with fail
      refine (finS x _).mono ?_
      rintro en w1 ⟨rfl, p, rfl⟩
      rw [HF.out]
      go_wp2_with fail
      refine (abs (up x) H4.out _).mono ?_
      rintro en w1 ⟨rfl, rfl⟩
      rw [show up x % 9223372036854775808 = absW x from rfl]
      go_wp2_with fail
      refine (frexp_any (absW x) HL1.out HA.out.1 _).mono ?_
      rintro en w1 ⟨rfl, rfl⟩
      rw [HEV.out]
      go_wp2_with fail
      refine (ldexp_24 (frW (absW x)) hfr.out.1 hfr.out.2 _).mono ?_
      rintro en w1 ⟨rfl, rfl⟩
      go_wp2_with fail
      go_loop [7, 6] (fun a e => ∃ M j : Nat, a = .int .i64 M ∧ e = .int .i64 ((j : Int) - 180) ∧ 0 < M ∧ M < 16777216 ∧ j + M ≤ 100000000 ∧ M * 2 ^ j = n * 2 ^ d * 2 ^ 31) (fun a _ => (intOf a).toNat)
      case atStart =>
        exact ⟨M, j, rfl, by rw [HEJ.out], hM0, hM1, by omega, HMJ0.out⟩
      case round =>
        obtain ⟨M, j, rfl, rfl, hM0, hM1, hj, hMj⟩ := hrel
        have HMJ := Lib.hid hMj
        clear hMj
        by_cases hev : M % 2 = 0
        · have ht : ((M : Int) % 2 == 0) = true := by simp; omega
          obtain ⟨s1, s2, s3⟩ := strip_step HMJ.out hev hM0
          have HS1 := Lib.hid s1
          clear s1 hev
          go_wp2_with fail
          go_round
          case rel =>
            refine ⟨M / 2, j + 1, ?_, ?_, s2, by omega, by omega, HS1.out⟩
            · first | (congr 1; done) | (congr 1; omega)
            · first | (congr 1; done) | (congr 1; omega)
          case measure => simp [intOf]; omega
        · have ht : ((M : Int) % 2 == 0) = false := by simp; omega
          have HSP : Hid (Split x M ((j : Int) - 180) true) := Split.yes HFX.out HZ0.out M j (by omega) (by rw [HMJ.out, HND.out])
          clear hev
          go_wp2_with fail
          go_ret3
          exact ⟨_, _, _, rfl, HSP.out, p, rfl⟩
end Go.Proofs.YtpbklllmplimaaaDoor.same
