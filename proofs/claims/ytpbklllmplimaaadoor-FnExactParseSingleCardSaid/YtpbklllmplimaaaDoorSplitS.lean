/- SplitSingle in package spec, walked. -/
import Derived.Test.YtpbklllmplimaaaDoorSplit
import Derived.Test.YtpbklllmplimaaaDoorFine
import Derived.LoopTactic
import Derived.IntWalk
import Derived.Outline
namespace Go.Proofs.YtpbklllmplimaaaDoor.same
open Go.RowKit Fl base
set_option linter.unusedVariables false

/-- how two float64 of no sign stand to each other -/
theorem ord_words {a b : Nat} (ha : a < D.infRung) (hb : b < D.infRung) : (a < b → D.order a b = some .lt) ∧ (a = b → D.order a b = some .eq) ∧ (b < a → D.order a b = some .gt) := by
  have k1 : key FloatKind.f64.format a = (a : Int) := (gnum ha).2.2
  have k2 : key FloatKind.f64.format b = (b : Int) := (gnum hb).2.2
  exact ⟨fun h => ordLt (k := .f64) (gnum ha).1 (gnum hb).1 (by rw [k1, k2]; omega), fun h => ordEq (k := .f64) (gnum ha).1 (gnum hb).1 (by rw [k1, k2]; omega), fun h => ordGt (k := .f64) (gnum ha).1 (gnum hb).1 (by rw [k1, k2]; omega)⟩

theorem lit_lt (b : Nat) (h : b ≤ 9218868437227405311) : b < D.infRung := by rw [D_I]; omega

/-- the figures of 2 ^ .. struck out: the end of both walks -/
theorem strip_step {X M j : Nat} (h : M * 2 ^ j = X) (he : M % 2 = 0) (h0 : 0 < M) : M / 2 * 2 ^ (j + 1) = X ∧ 0 < M / 2 ∧ M / 2 < M := by
  refine ⟨?_, by omega, by omega⟩
  rw [Nat.pow_succ, Nat.mul_comm (2 ^ j) 2, ← Nat.mul_assoc]
  rw [show M / 2 * 2 = M by omega]; exact h

set_option maxRecDepth 100000 in
set_option maxHeartbeats 2000000 in
theorem spec_SplitSingle (x : Nat) (hx : x < 2 ^ 32) (w : World) : Calls Tryd.prog 39 #[.float .f32 x] w (SplitE x w) := by
  have hs32 : (Tryd.prog.underlying 22).isSome = true := by rw [Tryd.underlying22]; rfl
  have hs64 : (Tryd.prog.underlying 26).isSome = true := by rw [Tryd.underlying26]; rfl
  cases hf : fin S x with
  | false =>
    have HSP := Lib.hid (Split.no hf)
    cases hn : num S x with
    | true =>
      have h1 := (up_num hn).1
      have hcv : ∀ W : World, (convert 22 26 (.float .f32 x)).run Tryd.prog W = .ok (.float .f64 (up x)) W := fun W => run_convert_float_float W 22 26 .f32 .f64 x _ hs32 Tryd.underlying26 h1
      have HF : Hid (fin D (up x) = false) := by
        show _ = _
        cases hh : fin D (up x) with
        | false => rfl
        | true =>
          have hri : rg S x = S.infRung := by
            have h1 := num_iff.1 hn
            have h2 : ¬ rg S x < S.infRung := fun h => by rw [fin_iff.2 h] at hf; cases hf
            omega
          rw [(up_inf hri).2, fin_iff, rg_inf] at hh; omega
      clear h1 hn hf
      go_enter Tryd.func39, Tryd.ntmps39
      go_wp2_with fail
      refine (l01Fine _ _).mono ?_
      rintro en w1 ⟨rfl, p, rfl⟩
      rw [HF.out]
      go_wp2_with fail
      go_ret3
      exact ⟨_, _, _, rfl, HSP.out, p, rfl⟩
    | false =>
      obtain ⟨nb, hnb, hrun⟩ := run_conv_nan Tryd.prog (s := .f32) (k := .f64) (by decide) hn 22 26 hs32 Tryd.underlying26
      have HF : Hid (∀ W, fin D (nb W) = false) := fun W => by
        cases hh : fin D (nb W) with
        | false => rfl
        | true => have := num_of_fin hh; rw [(hnb W).1] at this; cases this
      clear hnb hn hf
      go_enter Tryd.func39, Tryd.ntmps39
      go_wp2_with fail
      refine (l01Fine _ _).mono ?_
      rintro en w1 ⟨rfl, p, rfl⟩
      rw [HF.out]
      go_wp2_with fail
      go_ret3
      exact ⟨_, _, _, rfl, HSP.out, 1 + p, rfl⟩
  | true =>
  have h1 := (up_num (num_of_fin hf)).1
  have hcv : ∀ W : World, (convert 22 26 (.float .f32 x)).run Tryd.prog W = .ok (.float .f64 (up x)) W := fun W => run_convert_float_float W 22 26 .f32 .f64 x _ hs32 Tryd.underlying26 h1
  have HF := Lib.hid (up_fin hf).2.1
  have hnu : num D (up x) = true := (up_num (num_of_fin hf)).2.1
  by_cases hz0 : rg S x = 0
  · have HSP := Lib.hid (Split.zero hf hz0)
    have ho : D.order (up x) 0 = some .eq := ordEq (k := .f64) hnu (num_zero _) (by rw [key_zero]; exact key_eq_zero.2 ((up_rg_zero (num_of_fin hf)).2 hz0))
    clear h1 hnu hz0 hf
    go_enter Tryd.func39, Tryd.ntmps39
    go_wp2_with fail
    refine (l01Fine _ _).mono ?_
    rintro en w1 ⟨rfl, p, rfl⟩
    rw [HF.out]
    go_wp2_with fail
    go_ret3
    exact ⟨_, _, _, rfl, HSP.out, p, rfl⟩
  · have hrz : rg D (up x) ≠ 0 := fun h => hz0 ((up_rg_zero (num_of_fin hf)).1 h)
    have hu3 : ng D (up x) = ng S x := (up_num (num_of_fin hf)).2.2.1
    have HA := Lib.hid (absW_isD hf)
    obtain ⟨n, d, hnd, n1, n2, d1, hcan⟩ := canon hf hz0
    have HFX := Lib.hid hf
    have HZ0 := Lib.hid hz0
    have HND := Lib.hid hnd
    have hA : Hid (isD (absW x) (n * 2 ^ (sh + d))) := by
      have := HA.out
      rw [HND.out, Nat.mul_assoc, ← Nat.pow_add, Nat.add_comm d] at this
      exact this
    have hc : (ng S x = true ∧ D.order (up x) 0 = some .lt ∧ Op.negFloat .f64 (up x) = absW x) ∨ (D.order (up x) 0 = some .gt ∧ up x = absW x) := by
      cases hs : ng S x with
      | true =>
        refine Or.inl ⟨rfl, ordLt (k := .f64) hnu (num_zero _) ?_, absW_neg hf hs⟩
        rw [key_zero]; exact key_neg.2 ⟨hu3.trans hs, hrz⟩
      | false =>
        refine Or.inr ⟨ordGt (k := .f64) hnu (num_zero _) ?_, absW_pos hf hs⟩
        rw [key_zero]; exact key_pos.2 ⟨hu3.trans hs, hrz⟩
    have hneg := fun k b => unary_neg_float k b
    have E64 := e64_eq
    have SH := sh_eq
    have HE64 := Lib.hid E64; have HSH := Lib.hid SH
    clear E64 SH h1 hnu hrz hu3 hf hz0 hnd HA
    rcases hc with ⟨_, ho, habs⟩ | ⟨ho, habs⟩
    all_goals
      have HAB := Lib.hid habs
      clear habs
      go_enter Tryd.func39, Tryd.ntmps39
      go_wp2_with fail
      refine (l01Fine _ _).mono ?_
      rintro en w1 ⟨rfl, p, rfl⟩
      rw [HF.out]
      go_wp2_with fail
      go_loop [5, 6] (fun a e => ∃ (z y q : Nat), a = .float .f64 z ∧ e = .int .i64 q ∧ isD z (n * 2 ^ y) ∧ y + q = sh + d ∧ (q = 0 ∨ e64 ≤ y)) (fun _ e => sh + d - (intOf e).toNat)
      case atStart =>
        refine ⟨absW x, sh + d, 0, ?_, rfl, hA.out, rfl, Or.inl rfl⟩
        rw [HAB.out]
      case round =>
        obtain ⟨z, y, q, rfl, rfl, hz, hyq, hq⟩ := hrel
        have HZ := Lib.hid hz; have HY := Lib.hid hyq; have HQ := Lib.hid hq
        clear hz hyq hq
        obtain ⟨o1, o2, o3⟩ := ord_words HZ.out.1 (lit_lt 4715268809856909312 (by omega))
        by_cases hge : 4715268809856909312 ≤ z
        · have hyy := ge24 HZ.out n2 hge
          obtain ⟨y, rfl⟩ : ∃ y', y = y' + 1 := ⟨y - 1, by omega⟩
          obtain ⟨z', hz'⟩ := isD_ex' (n := n) (j := y) n2 (by have := HY.out; have := HSH.out; omega)
          have q1 := fun W : World => run_float_arith (P := Tryd.prog) W .quo 26 .f64 _ _ _ (half_exact HZ.out hz')
          have HZ' := Lib.hid hz'
          have HYY := Lib.hid hyy
          have HQB : Hid (q < sh + d) := by have := HY.out; show _ < _; omega
          have hqs : q ≤ 2000 := by have := HY.out; have := HSH.out; omega
          clear hz' hyy
          rcases Nat.lt_or_eq_of_le hge with hlt | heq
          · have o := o3 hlt
            clear o1 o2 o3
            go_wp2_with fail
            go_round
            case rel => exact ⟨z', y, q + 1, rfl, by go_num, HZ'.out, by have := HY.out; omega, Or.inr (by have := HYY.out; omega)⟩
            case measure => simp [intOf]; have := HQB.out; omega
          · have o := o2 heq.symm
            clear o1 o2 o3 heq hge
            go_wp2_with fail
            go_round
            case rel => exact ⟨z', y, q + 1, rfl, by go_num, HZ'.out, by have := HY.out; omega, Or.inr (by have := HYY.out; omega)⟩
            case measure => simp [intOf]; have := HQB.out; omega
        · have o := o1 (by omega)
          have hy64 : Hid (y ≤ e64) := by
            show _ ≤ _
            rcases hcan with h0 | hn23
            · have := HY.out; have := HQ.out; have := HSH.out; have := HE64.out; omega
            · exact lt24 HZ.out hn23 (by omega)
          clear o1 o2 o3 hge
          have hqs : q ≤ 2000 := by have := HY.out; have := HSH.out; omega
          go_wp2_with fail
          go_loop [5, 6] (fun a e => ∃ (z y : Nat) (E : Int), a = .float .f64 z ∧ e = .int .i64 E ∧ isD z (n * 2 ^ y) ∧ (y : Int) = sh + d - E ∧ -149 ≤ E ∧ E ≤ 2000 ∧ y ≤ e64) (fun _ e => (intOf e + 149).toNat)
          case atStart => exact ⟨z, y, q, rfl, rfl, HZ.out, by have := HY.out; omega, by omega, by omega, hy64.out⟩
          case round =>
            obtain ⟨z, y, E, rfl, rfl, hz, hyE, hE0, hE1, hy⟩ := hrel
            have HZ := Lib.hid hz; have HYE := Lib.hid hyE; have HY := Lib.hid hy
            clear hz hyE hy
            obtain ⟨o1, o2, o3⟩ := ord_words HZ.out.1 (lit_lt 4710765210229538816 (by omega))
            by_cases hc2 : z < 4710765210229538816 ∧ -149 < E
            · obtain ⟨hl, hE⟩ := hc2
              have o := o1 hl
              have HYL : Hid (y + 1 ≤ e64) := by
                show _ ≤ _
                rcases Nat.lt_or_ge y e64 with h | h
                · omega
                · have hye : y = e64 := by have := HY.out; omega
                  have h23 := lt23 (n := n) (by rw [← hye]; exact HZ.out) hl
                  have := HYE.out; have := HSH.out; have := HE64.out
                  rcases hcan with h0 | h0 <;> omega
              obtain ⟨z', hz'⟩ := isD_ex' (n := n) (j := y + 1) n2 (by have := HYL.out; have := HE64.out; omega)
              have q1 := fun W : World => run_float_arith (P := Tryd.prog) W .mul 26 .f64 _ _ _ (twice_exact HZ.out hz')
              have HZ' := Lib.hid hz'
              clear hz' o1 o2 o3
              go_wp2_with fail
              go_round
              case rel => exact ⟨z', y + 1, E - 1, rfl, by go_num, HZ'.out, by have := HYE.out; omega, by omega, by omega, HYL.out⟩
              case measure => simp [intOf]; omega
            · have hye : y = e64 ∧ E = (d : Int) - 149 := by
                have a1 := HYE.out; have a2 := HSH.out; have a3 := HE64.out; have a4 := HY.out
                have : y = e64 := by
                  by_cases hl : z < 4710765210229538816
                  · have : E = -149 := by
                      rcases Int.lt_or_le (-149) E with h | h
                      · exact absurd ⟨hl, h⟩ hc2
                      · omega
                    omega
                  · have := ge23 HZ.out n2 (by omega); omega
                exact ⟨this, by omega⟩
              obtain ⟨hye1, hE⟩ := hye
              have hti := toInt_whole (n := n) (by rw [← hye1]; exact HZ.out) n2
              have q3 := fun W : World => run_convert_float_int (P := Tryd.prog) W 26 3 .f64 .i64 _ _ hs64 Tryd.underlying3 hti
              have HEE := Lib.hid hE
              clear hti hye1 hE
              have hway : (D.order z 4710765210229538816 = some .lt ∧ E ≤ -149) ∨ D.order z 4710765210229538816 = some .gt ∨ D.order z 4710765210229538816 = some .eq := by
                rcases Nat.lt_trichotomy z 4710765210229538816 with h | h | h
                · refine Or.inl ⟨o1 h, ?_⟩
                  rcases Int.lt_or_le (-149) E with h' | h'
                  · exact absurd ⟨h, h'⟩ hc2
                  · exact h'
                · exact Or.inr (Or.inr (o2 h))
                · exact Or.inr (Or.inl (o3 h))
              clear o1 o2 o3 hc2
              rcases hway with ⟨o, hE9⟩ | o | o
              all_goals
                go_wp2_with fail
                go_loop [7, 6] (fun a e => ∃ M j : Nat, a = .int .i64 M ∧ e = .int .i64 ((j : Int) - 180) ∧ 0 < M ∧ M < 16777216 ∧ j + M ≤ 100000000 ∧ M * 2 ^ j = n * 2 ^ d * 2 ^ 31) (fun a _ => (intOf a).toNat)
                case atStart =>
                  refine ⟨n, d + 31, rfl, ?_, by omega, n2, ?_, ?_⟩
                  · rw [HEE.out]; congr 1; omega
                  · omega
                  · rw [Nat.pow_add, Nat.mul_assoc]
                case round =>
                  obtain ⟨M, j, rfl, rfl, hM0, hM1, hj, hMj⟩ := hrel
                  have HMJ := Lib.hid hMj
                  clear hMj
                  by_cases hev : M % 2 = 0
                  · have ht : ((M : Int) % 2 == 0) = true := by simp; omega
                    obtain ⟨s1, s2, s3⟩ := strip_step HMJ.out hev hM0
                    have HS1 := Lib.hid s1
                    clear s1 hev
                    go_wp2_with fail
                    go_round
                    case rel =>
                      refine ⟨M / 2, j + 1, ?_, ?_, s2, by omega, by omega, HS1.out⟩
                      · first | (congr 1; done) | (congr 1; omega)
                      · first | (congr 1; done) | (congr 1; omega)
                    case measure => simp [intOf]; omega
                  · have ht : ((M : Int) % 2 == 0) = false := by simp; omega
                    have HSP : Hid (Split x M ((j : Int) - 180) true) := Split.yes HFX.out HZ0.out M j (by omega) (by rw [HMJ.out, HND.out])
                    clear hev
                    go_wp2_with fail
                    go_ret3
                    exact ⟨_, _, _, rfl, HSP.out, p, rfl⟩
end Go.Proofs.YtpbklllmplimaaaDoor.same
