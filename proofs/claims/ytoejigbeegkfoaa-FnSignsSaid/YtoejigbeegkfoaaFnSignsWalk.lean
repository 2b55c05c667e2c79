/- The law FnSigns, walked: it returns true. -/
import Derived.Test.YtoejigbeegkfoaaRows
import Derived.Test.YtoejigbeegkfoaaDrawSingle
import Derived.Test.YtoejigbeegkfoaaBig
import Derived.Test.YtoejigbeegkfoaaNeg
import Derived.Test.YtoejigbeegkfoaaSame64
import Derived.Test.YtoejigbeegkfoaaSignedI
import Derived.Test.YtoejigbeegkfoaaSignTextI
namespace Go.Proofs.Ytoejigbeegkfoaa.fnSigns
open Go.RowKit draw base same Fl
set_option linter.unusedVariables false

theorem starL : ({ data := #[42] } : ByteArray).toList = [42] := by kernel_rfl
theorem v_plus (x : Nat) : sgnV { data := #[43] } x = x := by simp [sgnV]
theorem v_minus (x : Nat) : sgnV { data := #[45] } x = Op.negFloat .f32 x := by simp [sgnV]
theorem ok_plus : sgnOk { data := #[43] } = true := by simp [sgnOk]
theorem ok_minus : sgnOk { data := #[45] } = true := by simp [sgnOk]
theorem ok_star : sgnOk { data := #[42] } = false := by simp [sgnOk]

theorem emptyL : ({ data := #[] } : ByteArray).toList = [] := by kernel_rfl
theorem sign_ne {x : Nat} (hx : x < 2 ^ 32) (hn : num S x = true) : ((signTx (Op.negFloat .f32 x)).toList == (signTx x).toList) = false := by
  have h1 := num_neg .f32 hx
  have h2 := ng_neg .f32 hx
  unfold signTx
  rw [h1, h2, hn]
  cases ng S x <;> simp

set_option maxHeartbeats 1000000 in
theorem walk (A : Option Addr) (n c : Nat) (w : World) (hb : Bytes w A n c) :
    Calls Try.prog 6 #[.slice A n c] w fun e w' => e = .returned (.bool true) ∧ Below w.heap.size w w' := by
  have HB := Lib.hid hb
  clear hb
  by_cases hbig : (n : Int) > 1048576
  · have hd : decide ((n : Int) > 1048576) = true := by simpa using hbig
    go_enter Try.func6, Try.ntmps6
    go_wp2_with fail
    refine (big A n c _).mono ?_
    rintro e w1 ⟨rfl, rfl⟩
    go_wp2_with fail
    go_ret
    exact ⟨rfl, Below.refl _ _⟩
  · have hd : decide ((n : Int) > 1048576) = false := by simpa using hbig
    go_enter Try.func6, Try.ntmps6
    go_wp2_with fail
    refine (big A n c _).mono ?_
    rintro e w1 ⟨rfl, rfl⟩
    go_wp2_with fail
    refine (drawSingle w A n c HB.out).mono ?_
    rintro e w1 ⟨x, rfl, hx, b1⟩
    have B1 := Lib.hid b1
    have HX := Lib.hid hx
    clear b1 hbig hd hx
    go_wp2_with fail
    refine (impl_Signed _ x _).mono ?_
    rintro e w2 ⟨rfl, rfl⟩
    rw [v_plus, ok_plus]
    go_wp2_with fail
    refine (impl_Signed _ x _).mono ?_
    rintro e w2 ⟨rfl, rfl⟩
    rw [v_minus, ok_minus]
    go_wp2_with fail
    refine (impl_Signed _ _ _).mono ?_
    rintro e w2 ⟨rfl, rfl⟩
    rw [v_minus, ok_minus, neg_neg_]
    go_wp2_with fail
    refine (impl_Signed _ x _).mono ?_
    rintro e w2 ⟨rfl, rfl⟩
    rw [ok_star]
    go_wp2_with fail
    refine (same32 x x _).mono ?_
    rintro e w2 ⟨rfl, b2⟩
    have B2 := Lib.hid b2
    clear b2
    rw [sm32_refl]
    go_wp2_with fail
    refine (same32 x x _).mono ?_
    rintro e w3 ⟨rfl, b3⟩
    have B3 := Lib.hid b3
    clear b3
    rw [sm32_refl]
    cases hn : num S x with
    | false =>
      have h1 := ordNanL hn x
      clear hn
      go_wp2_with fail
      go_ret
      exact ⟨rfl, (B1.out.trans (B2.out.mono B1.out.size)).trans (B3.out.mono (Nat.le_trans B1.out.size B2.out.size))⟩
    | true =>
      have h1 := ordSelf hn
      have h2 := sign_ne HX.out hn
      clear hn
      go_wp2_with fail
      refine (impl_SignText _ _).mono ?_
      rintro e w4 ⟨rfl, rfl⟩
      go_wp2_with fail
      refine (impl_SignText _ _).mono ?_
      rintro e w4 ⟨rfl, rfl⟩
      go_wp2_with fail
      go_ret
      exact ⟨rfl, (B1.out.trans (B2.out.mono B1.out.size)).trans (B3.out.mono (Nat.le_trans B1.out.size B2.out.size))⟩
end Go.Proofs.Ytoejigbeegkfoaa.fnSigns
