/- The law FnExactSettle, walked: it returns true. -/
import Derived.Test.YtjclldiaddoobaaRows
import Derived.Test.YtjclldiaddoobaaRngT
namespace Go.Proofs.Ytjclldiaddoobaa.fnExactSettle
open Go.RowKit base Fl same rng
set_option linter.unusedVariables false

set_option maxHeartbeats 1000000 in
theorem walk (A : Option Addr) (n c : Nat) (F D U : Nat → Nat) (a1 : Int) (w1 : (Lit.int .i64 a1).wf = true) (a2 : Nat) (w2 : (Lit.float .f32 a2).wf = true) (w : World) (h : Rs w A n c F D U) :
    Calls Try.prog 9 #[.slice A n c, .int .i64 a1, .float .f32 a2] w fun e w' => e = .returned (.bool true) ∧ Below w.heap.size w w' := by
  have hn : n ≤ 9223372036854775807 := Nat.le_trans h.1 h.2.1
  clear w1 w2
  by_cases hsz : (n : Int) ≤ 1048576
  · go_enter Try.func9, Try.ntmps9
    go_wp2_with fail
    refine (szRangeS A n c hn _).mono ?_
    rintro e w0 ⟨rfl, rfl⟩
    rw [if_pos hsz]
    go_wp2_with fail
    refine (toRangeS A n c F D U _ h (by omega)).mono ?_
    rintro e w1 ⟨g1, rfl, r1, b1, l1, l1'⟩
    have h1 := h.below b1
    go_wp2_with fail
    refine (spec_Settle _ n n F D U a1 a2 _ r1).mono ?_
    rintro e w2 ⟨s1, rfl, hs1, b2⟩
    have bb2 := b1.trans (b2.mono b1.size)
    go_wp2_with fail
    refine (toRangeS A n c F D U _ (h.below bb2) (by omega)).mono ?_
    rintro e w3 ⟨g3, rfl, r3, b3, l3, l3'⟩
    have bb3 := bb2.trans (b3.mono bb2.size)
    go_wp2_with fail
    refine (impl_Settle _ n n F D U a1 a2 _ r3).mono ?_
    rintro e w4 ⟨s2, rfl, hs2, b4⟩
    obtain rfl := hs1.unique hs2
    clear hs1 hs2
    have bb4 := bb3.trans (b4.mono bb3.size)
    have r4 := r3.below b4
    go_wp2_with fail
    refine (toRangeS A n c F D U _ (h.below bb4) (by omega)).mono ?_
    rintro e w5 ⟨g5, rfl, r5, b5, l5, l5'⟩
    have bb5 := bb4.trans (b5.mono bb4.size)
    go_wp2_with fail
    refine (eqRangeS _ _ n n n F D U _ (r4.below b5) r5 (by omega)).mono ?_
    rintro e w6 ⟨rfl, b6⟩
    have bb6 := bb5.trans (b6.mono bb5.size)
    go_wp2_with fail
    go_ret
    exact ⟨rfl, bb6⟩
  · go_enter Try.func9, Try.ntmps9
    go_wp2_with fail
    refine (szRangeS A n c hn _).mono ?_
    rintro e w0 ⟨rfl, rfl⟩
    rw [if_neg (by omega)]
    go_wp2_with fail
    go_ret
    exact ⟨rfl, Below.refl _ _⟩
end Go.Proofs.Ytjclldiaddoobaa.fnExactSettle
