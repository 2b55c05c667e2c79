/- The law FnExactFormatInt, walked: it returns true. -/
import Derived.Test.YtmpeolnnfblbkaaDoorRows
import Derived.Test.YtmpeolnnfblbkaaDoorFmt
namespace Go.Proofs.YtmpeolnnfblbkaaDoor.fnExactFormatInt
open Go.RowKit base fmt
set_option linter.unusedVariables false

theorem wf64 {n : Int} (h : (Lit.int .i64 n).wf = true) : -9223372036854775808 ≤ n ∧ n ≤ 9223372036854775807 := by
  simp [Lit.wf] at h
  have e1 : IntKind.i64.min = -9223372036854775808 := by decide
  have e2 : IntKind.i64.max = 9223372036854775807 := by decide
  exact ⟨by omega, by omega⟩

theorem walk (n : Int) (wn : (Lit.int .i64 n).wf = true) (w : World) (ht : tab.Tab w) :
    Calls Tryd.prog 3 #[.int .i64 n] w fun en w' => en = .returned (.bool true) ∧ Below w.heap.size w w' := by
  obtain ⟨h0, h1⟩ := wf64 wn
  have HT := Lib.hid ht
  clear ht wn
  go_enter Tryd.func3, Tryd.ntmps3
  go_wp2_with fail
  refine (spec_FormatInt n h0 h1 _).mono ?_
  rintro en w1 ⟨rfl, b1⟩
  have HB := Lib.hid b1
  have HT1 := Lib.hid (HT.out.below (Nat.le_refl _) b1)
  clear b1
  go_wp2_with fail
  refine (tab.formatInt n h0 h1 _ HT1.out).mono ?_
  rintro en w2 ⟨rfl, b2, t2⟩
  have HB2 := Lib.hid (HB.out.trans (b2.mono HB.out.size))
  clear b2 t2
  go_wp2_with fail
  go_ret
  exact ⟨rfl, HB2.out⟩
end Go.Proofs.YtmpeolnnfblbkaaDoor.fnExactFormatInt
