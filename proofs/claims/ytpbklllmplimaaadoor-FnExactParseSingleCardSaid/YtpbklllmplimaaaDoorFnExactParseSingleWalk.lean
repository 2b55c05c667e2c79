/- The law FnExactParseSingle, walked: it returns true. -/
import Derived.Test.YtpbklllmplimaaaDoorRows
import Derived.Test.YtpbklllmplimaaaDoorPsS
import Derived.Test.YtpbklllmplimaaaDoorPsI
import Derived.Test.YtpbklllmplimaaaDoorConvSingle
import Derived.Test.YtpbklllmplimaaaDoorSameFloat
namespace Go.Proofs.YtpbklllmplimaaaDoor.fnExactParseSingle
open Go.RowKit same Fl base
set_option linter.unusedVariables false

theorem conv_pair (v v' : Nat) (h : v = v' ∨ (num S v = false ∧ num S v' = false)) (w : World) : ∃ (g g' : World → Nat) (d d' : World → World),
    (∀ w, (convert 22 26 (.float .f32 v)).run Tryd.prog w = .ok (.float .f64 (g w)) (d w)) ∧ (∀ w, (convert 22 26 (.float .f32 v')).run Tryd.prog w = .ok (.float .f64 (g' w)) (d' w)) ∧
    (∀ w w', smB (g' w) (g w') = true) ∧ (∀ w, g w < 2 ^ 64) ∧ (∀ w, g' w < 2 ^ 64) ∧ (∀ w, d w = w ∨ d w = w.drew) ∧ (∀ w, d' w = w ∨ d' w = w.drew) := by
  rcases h with rfl | ⟨h1, h2⟩
  · obtain ⟨g, d, r, a, b, c⟩ := conv_single v w
    exact ⟨g, g, d, d, r, r, a, b, b, c, c⟩
  · obtain ⟨g, hg, r⟩ := run_conv_nan Tryd.prog (s := .f32) (k := .f64) (by decide) h1 22 26 (by kernel_rfl) Tryd.underlying26
    obtain ⟨g', hg', r'⟩ := run_conv_nan Tryd.prog (s := .f32) (k := .f64) (by decide) h2 22 26 (by kernel_rfl) Tryd.underlying26
    exact ⟨g, g', World.drew, World.drew, r, r', fun w w' => smB_nan (hg' w).1 (hg w').1, fun w => (hg w).2, fun w => (hg' w).2, fun w => Or.inr rfl, fun w => Or.inr rfl⟩

set_option maxHeartbeats 1000000 in
theorem walk (s : ByteArray) (w0 : s.size ≤ maxLen) (w : World) (ht : tab.Tab w) :
    Calls Tryd.prog 3 #[.string s] w fun en w' => en = .returned (.bool true) ∧ Below w.heap.size w w' := by
  have HT := Lib.hid ht
  clear w0 ht
  by_cases hs : 1048576 < s.size
  · go_enter Tryd.func3, Tryd.ntmps3
    go_wp2_with fail
    go_ret
    exact ⟨rfl, Below.refl _ _⟩
  · go_enter Tryd.func3, Tryd.ntmps3
    go_wp2_with fail
    refine (spec_ParseSingle s (by omega) _).mono ?_
    rintro en w1 ⟨v, b, h1, rfl, b1⟩
    have H1 := Lib.hid h1
    have B1 := Lib.hid b1
    have HT1 := Lib.hid (HT.out.below (Nat.le_refl _) b1)
    clear h1 b1
    go_wp2_with fail
    refine (impl_ParseSingle s (by omega) _ HT1.out).mono ?_
    rintro en w2 ⟨v', b', h2, rfl, b2⟩
    have B2 := Lib.hid (B1.out.trans (b2.mono B1.out.size))
    obtain ⟨rfl, hv⟩ := H1.out.unique h2
    obtain ⟨g, g', d, d', r, r', hg, hl, hl', hd, hd'⟩ := conv_pair v v' hv w
    have HG : Hid ((∀ w w', smB (g' w) (g w') = true) ∧ (∀ w, g w < 2 ^ 64) ∧ (∀ w, g' w < 2 ^ 64) ∧ (∀ w, d w = w ∨ d w = w.drew) ∧ (∀ w, d' w = w ∨ d' w = w.drew)) := ⟨hg, hl, hl', hd, hd'⟩
    clear h2 b2 hv hg hl hl' hd hd'
    go_wp2_with fail
    refine (sameFloat _ _ (HG.out.2.2.1 _) (HG.out.2.1 _) _).mono ?_
    rintro en w3 ⟨rfl, rfl⟩
    rw [HG.out.1]
    go_wp2_with fail
    go_ret
    exact ⟨rfl, below_of_or (below_of_or B2.out (HG.out.2.2.2.2 _)) (HG.out.2.2.2.1 _)⟩
end Go.Proofs.YtpbklllmplimaaaDoor.fnExactParseSingle
