/- The law FnExactSplitSingle, walked: it returns true. -/
import Derived.Test.YtpbklllmplimaaaRows
import Derived.Test.YtpbklllmplimaaaSplitI
import Derived.Test.YtpbklllmplimaaaMk
namespace Go.Proofs.Ytpbklllmplimaaa.fnExactSplitSingle
open Go.RowKit same Fl base
set_option linter.unusedVariables false

set_option maxHeartbeats 1000000 in
theorem walk (x : Nat) (wf : (Lit.float .f32 x).wf = true) (w : World) :
    Calls Try.prog 4 #[.float .f32 x] w fun en w' => en = .returned (.bool true) ∧ Below w.heap.size w w' := by
  have hx : x < 2 ^ 32 := lt_of_wf wf
  clear wf
  go_enter Try.func4, Try.ntmps4
  go_wp2_with fail
  refine (spec_SplitSingle x hx _).mono ?_
  rintro en w1 ⟨m, e, ok, rfl, h1, p1, rfl⟩
  have H1 := Lib.hid h1
  clear h1
  go_wp2_with fail
  refine (impl_SplitSingle x hx _).mono ?_
  rintro en w2 ⟨m', e', ok', rfl, h2, p2, rfl⟩
  obtain ⟨rfl, rfl, rfl⟩ := H1.out.unique h2
  clear h2
  go_wp2_with fail
  go_ret
  exact ⟨rfl, by first | exact below_dn (below_dn (Below.refl w.heap.size w) p1) p2 | exact below_dn (Below.refl w.heap.size w) _⟩
end Go.Proofs.Ytpbklllmplimaaa.fnExactSplitSingle
