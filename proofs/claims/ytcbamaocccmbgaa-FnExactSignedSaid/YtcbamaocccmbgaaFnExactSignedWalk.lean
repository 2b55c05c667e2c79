/- The law FnExactSigned, walked: it returns true. -/
import Derived.Test.YtcbamaocccmbgaaRows
import Derived.Test.YtcbamaocccmbgaaSigned
namespace Go.Proofs.Ytcbamaocccmbgaa.fnExactSigned
open Go.RowKit same Fl
set_option linter.unusedVariables false

theorem walk (s : ByteArray) (w0 : s.size ≤ maxLen) (x : Nat) (w1 : (Lit.float .f32 x).wf = true) (w : World) :
    Calls Try.prog 8 #[.string s, .float .f32 x] w fun e w' => e = .returned (.bool true) ∧ Below w.heap.size w w' := by
  clear w0 w1
  by_cases hs : 1048576 < s.size
  · go_enter Try.func8, Try.ntmps8
    go_wp2_with fail
    go_ret
    exact ⟨rfl, Below.refl _ _⟩
  · obtain ⟨g, d, r, hg, hl, hd⟩ := conv_single (sgnV s x) w
    have HG : Hid ((∀ w w', smB (g w) (g w') = true) ∧ (∀ w, g w < 2 ^ 64) ∧ ∀ w, d w = w ∨ d w = w.drew) := ⟨hg, hl, hd⟩
    clear hg hl hd
    go_enter Try.func8, Try.ntmps8
    go_wp2_with fail
    refine (spec_Signed s x _).mono ?_
    rintro e w1 ⟨rfl, rfl⟩
    go_wp2_with fail
    refine (impl_Signed s x _).mono ?_
    rintro e w2 ⟨rfl, rfl⟩
    go_wp2_with fail
    refine (sameFloat _ _ (HG.out.2.1 _) (HG.out.2.1 _) _).mono ?_
    rintro e w3 ⟨rfl, rfl⟩
    rw [HG.out.1]
    go_wp2_with fail
    go_ret
    exact ⟨rfl, below_of_or (below_of_or (Below.refl _ _) (HG.out.2.2 _)) (HG.out.2.2 _)⟩
end Go.Proofs.Ytcbamaocccmbgaa.fnExactSigned
