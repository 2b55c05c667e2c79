/- The law FnExactFormatSingle, walked: it returns true. -/
import Derived.Test.YtpbklllmplimaaaDoorRows
import Derived.Test.YtpbklllmplimaaaDoorFs
namespace Go.Proofs.YtpbklllmplimaaaDoor.fnExactFormatSingle
open Go.RowKit same Fl base
set_option linter.unusedVariables false

theorem walk (x : Nat) (wf : (Lit.float .f32 x).wf = true) (w : World) (ht : tab.Tab w) :
    Calls Tryd.prog 6 #[.float .f32 x] w fun en w' => en = .returned (.bool true) ∧ Below w.heap.size w w' := by
  have hx : x < 2 ^ 32 := lt_of_wf wf
  have HT := Lib.hid ht
  clear wf ht
  go_enter Tryd.func6, Tryd.ntmps6
  go_wp2_with fail
  refine (spec_FormatSingle x hx _).mono ?_
  rintro en w1 ⟨l, h1, rfl, b1⟩
  have H1 := Lib.hid h1
  have HB := Lib.hid b1
  have HT1 := Lib.hid (HT.out.below (Nat.le_refl _) b1)
  clear h1 b1
  go_wp2_with fail
  refine (impl_FormatSingle x hx _ HT1.out).mono ?_
  rintro en w2 ⟨l', h2, rfl, b2⟩
  obtain rfl := H1.out.unique h2
  have HB2 := Lib.hid (HB.out.trans (b2.mono HB.out.size))
  clear h2 b2
  go_wp2_with fail
  go_ret
  exact ⟨rfl, HB2.out⟩
end Go.Proofs.YtpbklllmplimaaaDoor.fnExactFormatSingle
