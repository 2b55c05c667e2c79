/- The law FnExactDecodeHex, walked: it returns true. -/
import Derived.Test.YtmpeolnnfblbkaaRows
import Derived.Test.YtmpeolnnfblbkaaHexDI
namespace Go.Proofs.Ytmpeolnnfblbkaa.fnExactDecodeHex
open Go.RowKit base hex
set_option linter.unusedVariables false

set_option maxHeartbeats 1000000 in
theorem walk (s : ByteArray) (hs : s.size ≤ maxLen) (w : World) :
    Calls Try.prog 4 #[.string s] w fun e w' => e = .returned (.bool true) ∧ Below w.heap.size w w' := by
  unfold maxLen at hs
  by_cases hbig : (s.size : Int) > 1048576
  · go_enter Try.func4, Try.ntmps4
    go_wp2_with fail
    go_ret
    exact ⟨rfl, Below.refl _ _⟩
  · go_enter Try.func4, Try.ntmps4
    go_wp2_with fail
    refine (spec_DecodeHex s hs _).mono ?_
    rintro e w1 ⟨rfl, b1⟩
    have B1 := Lib.hid b1
    clear b1
    go_wp2_with fail
    refine (impl_DecodeHex s hs _).mono ?_
    rintro e w2 ⟨rfl, b2⟩
    have B2 := Lib.hid (B1.out.trans (b2.mono B1.out.size))
    clear b2
    go_wp2_with fail
    go_ret
    exact ⟨rfl, B2.out⟩
end Go.Proofs.Ytmpeolnnfblbkaa.fnExactDecodeHex
