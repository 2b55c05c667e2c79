/- The contract of DrawSingle: some single. -/
import Derived.Test.YtpbklllmplimaaaDoorDrawSi
namespace Go.Proofs.YtpbklllmplimaaaDoor.draw
open Go.RowKit base Fl same
set_option linter.unusedVariables false

/-- some single, nothing that was there turned -/
def OneSingle (w : World) (e : Ending) (w' : World) : Prop := ∃ x : Nat, e = .returned (.float .f32 x) ∧ x < 2 ^ 32 ∧ Below w.heap.size w w'

theorem drawSingle (w : World) (A : Option Addr) (n c : Nat) (hb : Bytes w A n c) : Calls Tryd.prog 11 #[.slice A n c] w (OneSingle w) := by
  have HB := Lib.hid hb
  clear hb
  go_enter Tryd.func11, Tryd.ntmps11
  go_wp2_with fail
  refine (new_ w A n c HB.out).mono ?_
  rintro e w1 ⟨rfl, c1⟩
  have HC1 := Lib.hid c1
  clear c1
  go_wp2_with fail
  refine (single w _ _ HC1.out).mono ?_
  rintro e w2 ⟨v, rfl, ⟨r, rfl, hr⟩, c2, _⟩
  have HC2 := Lib.hid c2
  have HR := Lib.hid hr
  clear c2 hr
  go_wp2_with fail
  go_ret
  exact ⟨_, rfl, HR.out, HC2.out.below⟩
end Go.Proofs.YtpbklllmplimaaaDoor.draw
