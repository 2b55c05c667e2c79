/- The law FnExactMakeSingle, walked: it returns true. -/
import Derived.Test.YtpbklllmplimaaaRows
import Derived.Test.YtpbklllmplimaaaMkS
import Derived.Test.YtpbklllmplimaaaMkI
import Derived.Test.YtpbklllmplimaaaConvSingle
import Derived.Test.YtpbklllmplimaaaSameFloat
namespace Go.Proofs.Ytpbklllmplimaaa.fnExactMakeSingle
open Go.RowKit same Fl base
set_option linter.unusedVariables false

set_option maxHeartbeats 1000000 in
theorem walk (s : ByteArray) (w0 : s.size ≤ maxLen) (m : Int) (w1 : (Lit.int .i64 m).wf = true) (e : Int) (w2 : (Lit.int .i64 e).wf = true) (w : World) :
    Calls Try.prog 3 #[.string s, .int .i64 m, .int .i64 e] w fun en w' => en = .returned (.bool true) ∧ Below w.heap.size w w' := by
  clear w0 w1 w2
  by_cases hs : 1048576 < s.size
  · go_enter Try.func3, Try.ntmps3
    go_wp2_with fail
    go_ret
    exact ⟨rfl, Below.refl _ _⟩
  · obtain ⟨g, d, r, hg, hl, hd⟩ := conv_single (mkV s m e) w
    have HG : Hid ((∀ w w', smB (g w) (g w') = true) ∧ (∀ w, g w < 2 ^ 64) ∧ ∀ w, d w = w ∨ d w = w.drew) := ⟨hg, hl, hd⟩
    clear hg hl hd
    go_enter Try.func3, Try.ntmps3
    go_wp2_with fail
    refine (spec_MakeSingle s m e _).mono ?_
    rintro en w1 ⟨rfl, p1, rfl⟩
    go_wp2_with fail
    refine (impl_MakeSingle s m e _).mono ?_
    rintro en w2 ⟨rfl, p2, rfl⟩
    have B2 := Lib.hid (below_dn (below_dn (Below.refl w.heap.size w) p1) p2)
    go_wp2_with fail
    refine (sameFloat _ _ (HG.out.2.1 _) (HG.out.2.1 _) _).mono ?_
    rintro en w3 ⟨rfl, rfl⟩
    rw [HG.out.1]
    go_wp2_with fail
    go_ret
    refine ⟨rfl, below_of_or (below_of_or ?_ (HG.out.2.2 _)) (HG.out.2.2 _)⟩
    first | exact B2.out | exact below_dn (Below.refl w.heap.size w) _
end Go.Proofs.Ytpbklllmplimaaa.fnExactMakeSingle
