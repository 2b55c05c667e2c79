/- The law FnCodeRises, walked: it returns true. -/
import Derived.Test.YtjclldiaddoobaaRows
import Derived.Test.YtjclldiaddoobaaDrawRanges
import Derived.Test.YtjclldiaddoobaaBig
import Derived.Test.YtjclldiaddoobaaRngH
namespace Go.Proofs.Ytjclldiaddoobaa.fnCodeRises
open Go.RowKit draw base same Fl rng
set_option linter.unusedVariables false

set_option maxHeartbeats 2000000 in
theorem walk (A : Option Addr) (n c : Nat) (w : World) (hb : Bytes w A n c) :
    Calls Try.prog 14 #[.slice A n c] w fun e w' => e = .returned (.bool true) ∧ Below w.heap.size w w' := by
  have HB := Lib.hid hb
  clear hb
  by_cases hbig : (n : Int) > 1048576
  · have hd : decide ((n : Int) > 1048576) = true := by simpa using hbig
    go_enter Try.func14, Try.ntmps14
    go_wp2_with fail
    refine (big A n c _).mono ?_
    rintro e w1 ⟨rfl, rfl⟩
    go_wp2_with fail
    go_ret
    exact ⟨rfl, Below.refl _ _⟩
  · have hd : decide ((n : Int) > 1048576) = false := by simpa using hbig
    go_enter Try.func14, Try.ntmps14
    go_wp2_with fail
    refine (big A n c _).mono ?_
    rintro e w1 ⟨rfl, rfl⟩
    go_wp2_with fail
    refine (drawRanges w A n c HB.out).mono ?_
    rintro e w1 ⟨gg, m, cap, F, D, U, x, rfl, hr, hg, hm, hx, b1⟩
    have HR := Lib.hid hr
    have B1 := Lib.hid b1
    have HX := Lib.hid hx
    clear hr b1 hbig hd hx
    go_wp2_with fail
    go_loopw [5] (fun i wr => ∃ k : Nat, k ≤ m ∧ i = .int .i64 k ∧ Below w1.heap.size w1 wr) (fun i _ => m - (intOf i).toNat)
    case atStart => exact ⟨0, Nat.zero_le _, rfl, Below.refl _ _⟩
    case round =>
      obtain ⟨k, hk, rfl, hbel⟩ := hrel
      have HBL := Lib.hid hbel
      clear hbel
      by_cases hkm : k < m
      · cases hc : codeOk m F D U k x with
        | false =>
          have h0 : codeV m F D U k x = 0 := by unfold codeV; rw [hc]; rfl
          go_wp2_with fail
          refine (impl_CodeOf _ m cap F D U k x HX.out _ (HR.out.below HBL.out)).mono ?_
          rintro e w2 ⟨rfl, b2⟩
          rw [hc, h0]
          have BB2 := Lib.hid (HBL.out.trans (b2.mono HBL.out.size))
          obtain ⟨z, p, a1, lz⟩ := arith_w Try.prog (op := .quo) (by simp) .f32 x 1073741824 29 w2
          have LZ : Hid (z < 2 ^ 32) := lz
          clear b2 lz
          go_wp2_with fail
          refine (impl_CodeOf _ m cap F D U k z LZ.out _ (HR.out.below (below_dn BB2.out p))).mono ?_
          rintro e w3 ⟨rfl, b3⟩
          have BB3 := Lib.hid ((below_dn BB2.out p).trans (b3.mono (below_dn BB2.out p).size))
          clear b3 a1
          generalize codeV m F D U k z = d
          generalize codeOk m F D U k z = is
          go_wp2_with fail
          refine (spec_CodeOf _ m cap F D U k x HX.out _ (HR.out.below BB3.out)).mono ?_
          rintro e w4 ⟨rfl, b4⟩
          rw [hc, h0]
          have BB4 := Lib.hid (BB3.out.trans (b4.mono BB3.out.size))
          clear b4
          go_wp2_with fail
          go_roundw
          case rel => exact ⟨k + 1, by omega, by go_num, BB4.out⟩
          case measure => simp [intOf]; omega
        | true =>
          obtain ⟨z, hz, lz, hcz, s, v, v', hv, hv', hle, hv0⟩ := code_half hg hkm HX.out hc
          have q1 := fun W : World => run_float_arith (P := Try.prog) W .quo 29 .f32 _ _ _ hz
          have LZ := Lib.hid lz
          obtain ⟨p1, p2, p3, p4, p5, p6, p7, p8, p9⟩ := sgn_facts s hle hv0
          have p10 : sg s v = 0 → sg s v' = 0 := by unfold sg; split <;> omega
          have HV := Lib.hid hv; have HV' := Lib.hid hv'
          have HC := Lib.hid hc; have HCZ := Lib.hid hcz
          clear hz lz hle hv0 hv hv' hc hcz
          generalize sg s v = cc at *
          generalize sg s v' = dd at *
          have i1 : decide (dd * dd > cc * cc) = false := by simp; omega
          go_wp2_with fail
          refine (impl_CodeOf _ m cap F D U k x HX.out _ (HR.out.below HBL.out)).mono ?_
          rintro e w2 ⟨rfl, b2⟩
          rw [HC.out, HV.out]
          have BB2 := Lib.hid (HBL.out.trans (b2.mono HBL.out.size))
          clear b2
          go_wp2_with fail
          refine (impl_CodeOf _ m cap F D U k z LZ.out _ (HR.out.below BB2.out)).mono ?_
          rintro e w3 ⟨rfl, b3⟩
          rw [HCZ.out, HV'.out]
          have BB3 := Lib.hid (BB2.out.trans (b3.mono BB2.out.size))
          clear b3 q1
          go_wp2_with fail
          refine (spec_CodeOf _ m cap F D U k x HX.out _ (HR.out.below BB3.out)).mono ?_
          rintro e w4 ⟨rfl, b4⟩
          rw [HC.out, HV.out]
          have BB4 := Lib.hid (BB3.out.trans (b4.mono BB3.out.size))
          clear b4
          have m1 : RowKit.wrap64 (dd * dd) = dd * dd := by unfold RowKit.wrap64; omega
          have m2 : RowKit.wrap64 (cc * cc) = cc * cc := by unfold RowKit.wrap64; omega
          rcases Int.lt_trichotomy cc 0 with hcc | hcc | hcc
          · have j1 : decide (cc > 0) = false := by simp; omega
            have j2 : decide (cc < 0) = true := by simp; omega
            have j3 : decide (dd > 0) = false := by simp; omega
            go_wp2_with fail
            go_roundw
            case rel => exact ⟨k + 1, by omega, by go_num, BB4.out⟩
            case measure => simp [intOf]; omega
          · obtain rfl := p10 hcc
            subst hcc
            clear i1 m1 m2 p1 p2 p3 p4 p5 p6 p7 p8 p9 p10
            go_wp2_with fail
            go_roundw
            case rel => exact ⟨k + 1, by omega, by go_num, BB4.out⟩
            case measure => simp [intOf]; omega
          · have j1 : decide (cc > 0) = true := by simp; omega
            have j2 : decide (cc < 0) = false := by simp; omega
            have j3 : decide (dd < 0) = false := by simp; omega
            go_wp2_with fail
            go_roundw
            case rel => exact ⟨k + 1, by omega, by go_num, BB4.out⟩
            case measure => simp [intOf]; omega
      · have : k = m := by omega
        subst this
        have hbest := best_zero hg
        go_wp2_with fail
        refine (impl_BestRange _ k cap F D U 0 _ (HR.out.below HBL.out)).mono ?_
        rintro e w2 ⟨rfl, b2⟩
        rw [hbest]
        have BB2 := Lib.hid (HBL.out.trans (b2.mono HBL.out.size))
        clear b2
        go_wp2_with fail
        go_ret
        exact ⟨rfl, B1.out.trans (BB2.out.mono B1.out.size)⟩
end Go.Proofs.Ytjclldiaddoobaa.fnCodeRises
