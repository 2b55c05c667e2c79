/- The law FnCodeSigns, walked: it returns true. -/
import Derived.Test.YtjclldiaddoobaaRows
import Derived.Test.YtjclldiaddoobaaDrawRanges
import Derived.Test.YtjclldiaddoobaaBig
import Derived.Test.YtjclldiaddoobaaRngL
namespace Go.Proofs.Ytjclldiaddoobaa.fnCodeSigns
open Go.RowKit draw base same Fl rng
set_option linter.unusedVariables false

set_option maxHeartbeats 2000000 in
theorem walk (A : Option Addr) (n c : Nat) (w : World) (hb : Bytes w A n c) :
    Calls Try.prog 11 #[.slice A n c] w fun e w' => e = .returned (.bool true) ∧ Below w.heap.size w w' := by
  have HB := Lib.hid hb
  have hu := fun k b => unary_neg_float k b
  clear hb
  by_cases hbig : (n : Int) > 1048576
  · have hd : decide ((n : Int) > 1048576) = true := by simpa using hbig
    go_enter Try.func11, Try.ntmps11
    go_wp2_with fail
    refine (big A n c _).mono ?_
    rintro e w1 ⟨rfl, rfl⟩
    go_wp2_with fail
    go_ret
    exact ⟨rfl, Below.refl _ _⟩
  · have hd : decide ((n : Int) > 1048576) = false := by simpa using hbig
    go_enter Try.func11, Try.ntmps11
    go_wp2_with fail
    refine (big A n c _).mono ?_
    rintro e w1 ⟨rfl, rfl⟩
    go_wp2_with fail
    refine (drawRanges w A n c HB.out).mono ?_
    rintro e w1 ⟨gg, m, cap, F, D, U, x, rfl, hr, hg, hm, hx, b1⟩
    have HR := Lib.hid hr
    have B1 := Lib.hid b1
    have HX := Lib.hid hx
    have HX' : Hid (Op.negFloat .f32 x < 2 ^ 32) := negFloat_lt .f32 hx
    clear hr b1 hbig hd hx
    go_wp2_with fail
    go_loopw [5] (fun i wr => ∃ k : Nat, k ≤ m ∧ i = .int .i64 k ∧ Below w1.heap.size w1 wr) (fun i _ => m - (intOf i).toNat)
    case atStart => exact ⟨0, Nat.zero_le _, rfl, Below.refl _ _⟩
    case round =>
      obtain ⟨k, hk, rfl, hbel⟩ := hrel
      have HBL := Lib.hid hbel
      clear hbel
      by_cases hkm : k < m
      · obtain ⟨e1, e2, e3, e4, e5⟩ := code_neg hg hkm HX.out
        have E1 := Lib.hid e1; have E2 := Lib.hid e2; have E3 := Lib.hid e3
        clear e1 e2 e3
        go_wp2_with fail
        refine (impl_CodeOf _ m cap F D U k x HX.out _ (HR.out.below HBL.out)).mono ?_
        rintro e w2 ⟨rfl, b2⟩
        have BB2 := Lib.hid (HBL.out.trans (b2.mono HBL.out.size))
        clear b2
        go_wp2_with fail
        refine (impl_CodeOf _ m cap F D U k _ HX'.out _ (HR.out.below BB2.out)).mono ?_
        rintro e w3 ⟨rfl, b3⟩
        rw [E1.out, E2.out, E3.out]
        have BB3 := Lib.hid (BB2.out.trans (b3.mono BB2.out.size))
        clear b3
        generalize codeV m F D U k x = v at *
        go_wp2_with fail
        refine (impl_Overload _ m cap F D U k x _ (HR.out.below BB3.out)).mono ?_
        rintro e w4 ⟨rfl, b4⟩
        have BB4 := Lib.hid (BB3.out.trans (b4.mono BB3.out.size))
        clear b4
        generalize overB m F D U k x = o at *
        cases o with
        | true =>
          go_wp2_with fail
          go_roundw
          case rel => exact ⟨k + 1, by omega, by go_num, BB4.out⟩
          case measure => simp [intOf]; omega
        | false =>
          go_wp2_with fail
          go_roundw
          case rel => exact ⟨k + 1, by omega, by go_num, BB4.out⟩
          case measure => simp [intOf]; omega
      · have : k = m := by omega
        subst this
        go_wp2_with fail
        go_ret
        exact ⟨rfl, B1.out.trans (HBL.out.mono B1.out.size)⟩
end Go.Proofs.Ytjclldiaddoobaa.fnCodeSigns
