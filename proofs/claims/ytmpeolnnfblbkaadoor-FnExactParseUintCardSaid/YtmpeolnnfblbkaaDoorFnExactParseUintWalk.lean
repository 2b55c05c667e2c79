/- The law FnExactParseUint, walked: it returns true. -/
import Derived.Test.YtmpeolnnfblbkaaDoorRows
import Derived.Test.YtmpeolnnfblbkaaDoorPu
namespace Go.Proofs.YtmpeolnnfblbkaaDoor.fnExactParseUint
open Go.RowKit base pu
set_option linter.unusedVariables false

theorem walk (s : ByteArray) (ws : s.size ≤ maxLen) (w : World) (ht : tab.Tab w) :
    Calls Tryd.prog 4 #[.string s] w fun en w' => en = .returned (.bool true) ∧ Below w.heap.size w w' := by
  have HT := Lib.hid ht
  clear ht ws
  by_cases hs : 1048576 < s.size
  · go_enter Tryd.func4, Tryd.ntmps4
    go_wp2_with fail
    go_ret
    exact ⟨rfl, Below.refl _ _⟩
  · go_enter Tryd.func4, Tryd.ntmps4
    go_wp2_with fail
    refine (spec_ParseUint s (by omega) _).mono ?_
    rintro en w1 ⟨rfl, b1⟩
    have HB := Lib.hid b1
    have HT1 := Lib.hid (HT.out.below (Nat.le_refl _) b1)
    clear b1
    go_wp2_with fail
    refine (impl_ParseUint s (by omega) _ HT1.out).mono ?_
    rintro en w2 ⟨rfl, b2⟩
    have HB2 := Lib.hid (HB.out.trans (b2.mono HB.out.size))
    clear b2
    go_wp2_with fail
    go_ret
    exact ⟨rfl, HB2.out⟩
end Go.Proofs.YtmpeolnnfblbkaaDoor.fnExactParseUint
