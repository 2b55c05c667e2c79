/- The condition on the listed tables of FieldsAgain's row. -/
import Derived.Test.YtmpeolnnfblbkaaDoorTab
import Derived.Test.YtmpeolnnfblbkaaDoorTab2
namespace Go.Proofs.YtmpeolnnfblbkaaDoor.tab5
open Go
set_option linter.unusedVariables false

def laid : List (String × DataW Unit) := [("math/bits.deBruijn32tab", Rows.laid_math_bits_deBruijn32tab), ("math/bits.deBruijn64tab", Rows.laid_math_bits_deBruijn64tab), ("internal/strconv.uint64pow10", Rows.laid_internal_strconv_uint64pow10), ("unicode/utf8.acceptRanges", Rows.laid_unicode_utf8_acceptRanges), ("unicode/utf8.first", Rows.laid_unicode_utf8_first)]
theorem door_met (os : Os) (args : Array Value) : laidMetH Tryd.prog laid ((World.laidAll Tryd.prog os laid).forCall (fun _ _ => 0) ⟨#[], args, []⟩).memory := by
  rw [MakeChecks.laidMetH_plain _ _ _ (by kernel_rfl)]; exact laidMet_laidAll _ (by kernel_rfl) (by kernel_rfl)
theorem of_laid {W : World} (h : laidMetH Tryd.prog laid W) : tab.Tab W := by
  rw [MakeChecks.laidMetH_plain _ _ _ (by kernel_rfl)] at h
  obtain ⟨ps, ⟨g0, t0, cs0, f0, p0, q0, hg0, ht0, hv0, hd0, ⟨g1, t1, cs1, f1, p1, q1, hg1, ht1, hv1, hd1, ⟨g2, t2, cs2, f2, p2, q2, hg2, ht2, hv2, hd2, _, _⟩, _⟩, _⟩, _, _⟩ := h
  unfold tab.Tab Lib.TabIs
  rw [hv2]
  rw [tab.pow_data] at hd2
  have hz : ∃ n e, Tryd.prog.underlying t2 = some (.array n e) ∧ Tryd.prog.underlying e = some (.int .u64) ∧ Tryd.prog.cellsOf e = 1 ∧ Tryd.prog.cellsOf t2 = n := by
    have hk : (Tryd.prog.globalNamed "internal/strconv.uint64pow10").bind (fun g => (Tryd.prog.globals[g]?).map (·.type)) = some t2 := by rw [hg2]; exact ht2
    have hk2 : (Tryd.prog.globalNamed "internal/strconv.uint64pow10").bind (fun g => (Tryd.prog.globals[g]?).map (·.type)) = some 80 := by kernel_rfl
    obtain rfl := Option.some.inj (hk2.symm.trans hk)
    exact ⟨20, 69, Tryd.underlying80, Tryd.underlying69, by kernel_rfl, by kernel_rfl⟩
  obtain ⟨n, e, h1, h2, h3, h4⟩ := hz
  have : cs2.toList = Lib.pow10Tab.map fun z => Value.int .u64 z := Lib.cells_of_tab h1 h2 h3 h4 hd2
  rw [← this]
end Go.Proofs.YtmpeolnnfblbkaaDoor.tab5
