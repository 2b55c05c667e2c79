/- The law FnMadeAgain, walked: it returns true. -/
import Derived.Test.YtpbklllmplimaaaRows
import Derived.Test.YtpbklllmplimaaaDrawSingle
import Derived.Test.YtpbklllmplimaaaBig
import Derived.Test.YtpbklllmplimaaaAgain
import Derived.Test.YtpbklllmplimaaaSplitI
import Derived.Test.YtpbklllmplimaaaMkI
import Derived.Test.YtpbklllmplimaaaSame64
import Derived.Test.YtpbklllmplimaaaSignTextI
namespace Go.Proofs.Ytpbklllmplimaaa.fnMadeAgain
open Go.RowKit draw base same Fl
set_option linter.unusedVariables false

theorem plusT : ({ data := #[43] } : ByteArray).toList = [43] := by kernel_rfl

set_option maxHeartbeats 1000000 in
theorem walk (A : Option Addr) (n c : Nat) (w : World) (hb : Bytes w A n c) :
    Calls Try.prog 6 #[.slice A n c] w fun e w' => e = .returned (.bool true) ∧ Below w.heap.size w w' := by
  have HB := Lib.hid hb
  clear hb
  by_cases hbig : (n : Int) > 1048576
  · have hd : decide ((n : Int) > 1048576) = true := by simpa using hbig
    go_enter Try.func6, Try.ntmps6
    go_wp2_with fail
    refine (big A n c _).mono ?_
    rintro e w1 ⟨rfl, rfl⟩
    go_wp2_with fail
    go_ret
    exact ⟨rfl, Below.refl _ _⟩
  · have hd : decide ((n : Int) > 1048576) = false := by simpa using hbig
    go_enter Try.func6, Try.ntmps6
    go_wp2_with fail
    refine (big A n c _).mono ?_
    rintro e w1 ⟨rfl, rfl⟩
    go_wp2_with fail
    refine (drawSingle w A n c HB.out).mono ?_
    rintro e w1 ⟨x, rfl, hx, b1⟩
    have B1 := Lib.hid b1
    have HX := Lib.hid hx
    clear b1 hbig hd hx
    go_wp2_with fail
    refine (impl_SplitSingle x HX.out _).mono ?_
    rintro e w2 ⟨m, ex, ok, rfl, hsp, p, rfl⟩
    cases ok with
    | false =>
      obtain ⟨rfl, rfl, hf⟩ := split_no hsp
      have hnone := sub_self32 hf
      obtain ⟨z, q, h1, hres, hl⟩ := arith_res Try.prog (op := .sub) (by simp) .f32 x x 22 w1 p
      have hz : num S z = false := by
        rcases hres with ⟨h, _⟩ | ⟨_, h⟩
        · rw [hnone] at h; cases h
        · exact h
      have ho := ordNanL (k := .f32) hz 0
      have HP := plusT
      have B2 := Lib.hid (below_dn B1.out q)
      clear hnone hres hl hz hf hsp
      go_wp2_with fail
      refine (impl_SignText _ _).mono ?_
      rintro e w3 ⟨rfl, rfl⟩
      rw [one_tx]
      go_wp2_with fail
      go_ret
      exact ⟨rfl, B2.out⟩
    | true =>
      obtain ⟨hok, hv⟩ := mk_again HX.out hsp
      have hnx := num_of_fin (split_fin hsp)
      have hodd := split_odd hsp
      have HOK := Lib.hid hok; have HV := Lib.hid hv
      clear hok hv hsp
      go_wp2_with fail
      refine (impl_SignText _ _).mono ?_
      rintro e w3 ⟨rfl, rfl⟩
      go_wp2_with fail
      refine (impl_MakeSingle _ m ex _).mono ?_
      rintro e w3 ⟨rfl, p2, rfl⟩
      rw [HOK.out, HV.out]
      go_wp2_with fail
      refine (same32 x x _).mono ?_
      rintro e w4 ⟨rfl, b4⟩
      rw [sm32_refl]
      have B6 := Lib.hid ((below_dn B1.out (p + p2)).trans (b4.mono (below_dn B1.out (p + p2)).size))
      clear b4
      rcases hodd with ⟨m0, m1⟩ | ⟨rfl, rfl, hr⟩
      · have ht : (m % 2 == 1) = true := by simp; exact m1
        clear m1
        go_wp2_with fail
        go_ret
        exact ⟨rfl, B6.out⟩
      · have ho : FloatKind.f32.format.order x 0 = some .eq := ordEq (k := .f32) hnx (num_zero _) (by rw [key_zero]; exact key_eq_zero.2 hr)
        clear hr
        go_wp2_with fail
        go_ret
        exact ⟨rfl, B6.out⟩
end Go.Proofs.Ytpbklllmplimaaa.fnMadeAgain
