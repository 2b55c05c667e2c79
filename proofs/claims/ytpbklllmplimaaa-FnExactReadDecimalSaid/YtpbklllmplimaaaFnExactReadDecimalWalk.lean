/- The law FnExactReadDecimal, walked: it returns true. -/
import Derived.Test.YtpbklllmplimaaaRows
import Derived.Test.YtpbklllmplimaaaDecI
import Derived.Test.YtpbklllmplimaaaConvSingle
import Derived.Test.YtpbklllmplimaaaSameFloat
namespace Go.Proofs.Ytpbklllmplimaaa.fnExactReadDecimal
open Go.RowKit same Fl base dec
set_option linter.unusedVariables false

set_option maxHeartbeats 1000000 in
theorem walk (s : ByteArray) (w0 : s.size ≤ maxLen) (w : World) :
    Calls Try.prog 5 #[.string s] w fun en w' => en = .returned (.bool true) ∧ Below w.heap.size w w' := by
  clear w0
  by_cases hs : 1048576 < s.size
  · go_enter Try.func5, Try.ntmps5
    go_wp2_with fail
    go_ret
    exact ⟨rfl, Below.refl _ _⟩
  · obtain ⟨g, d, r, hg, hl, hd⟩ := conv_single (rdV s) w
    have HG : Hid ((∀ w w', smB (g w) (g w') = true) ∧ (∀ w, g w < 2 ^ 64) ∧ ∀ w, d w = w ∨ d w = w.drew) := ⟨hg, hl, hd⟩
    clear hg hl hd
    go_enter Try.func5, Try.ntmps5
    go_wp2_with fail
    refine (spec_ReadDecimal s (by omega) _).mono ?_
    rintro en w1 ⟨rfl, b1⟩
    have B1 := Lib.hid b1
    clear b1
    go_wp2_with fail
    refine (impl_ReadDecimal s (by omega) _).mono ?_
    rintro en w2 ⟨rfl, b2⟩
    have B2 := Lib.hid (B1.out.trans (b2.mono B1.out.size))
    clear b2
    go_wp2_with fail
    refine (sameFloat _ _ (HG.out.2.1 _) (HG.out.2.1 _) _).mono ?_
    rintro en w3 ⟨rfl, rfl⟩
    rw [HG.out.1]
    go_wp2_with fail
    go_ret
    exact ⟨rfl, below_of_or (below_of_or B2.out (HG.out.2.2 _)) (HG.out.2.2 _)⟩
end Go.Proofs.Ytpbklllmplimaaa.fnExactReadDecimal
