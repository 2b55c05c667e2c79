/- The draw of ranges and a number. -/
import Derived.Test.YtjclldiaddoobaaDrawRngW
import Derived.Test.YtjclldiaddoobaaDrawNear
namespace Go.Proofs.Ytjclldiaddoobaa.rng
open Go.RowKit base Fl same draw
set_option linter.unusedVariables false

/-- ranges that are right, and some single -/
def DrawnE (w : World) (e : Ending) (w' : World) : Prop := ∃ (gg n cap : Nat) (F D U : Nat → Nat) (x : Nat), e = .returned (.tuple #[.slice (some ⟨gg, 0, none⟩) n cap, .float .f32 x]) ∧
  Rs w' (some ⟨gg, 0, none⟩) n cap F D U ∧ goodB n F D U = true ∧ n ≤ 5 ∧ x < 2 ^ 32 ∧ Below w.heap.size w w'

theorem drawRanges (w : World) (A : Option Addr) (n c : Nat) (hb : Bytes w A n c) : Calls Try.prog 43 #[.slice A n c] w (DrawnE w) := by
  have HB := Lib.hid hb
  clear hb
  go_enter Try.func43, Try.ntmps43
  go_wp2_with fail
  refine (new_ w A n c HB.out).mono ?_
  rintro e w1 ⟨rfl, c1⟩
  have C1 := Lib.hid c1
  clear c1
  go_wp2_with fail
  refine (l02Ranges w w1 w.heap.size C1.out).mono ?_
  rintro e w2 ⟨gg, m, cap, F, D, U, rfl, hr, hg, hm, hgg, hst⟩
  have h1 : 1 ≤ m := (of_decide_eq_true hg).1.1
  have hne : gg ≠ w.heap.size := by have := C1.out.lt; omega
  have HR := Lib.hid hr
  have HG := Lib.hid hg
  have ST := Lib.hid hst
  clear hr hg hst
  go_wp2_with fail
  refine (l02Near w _ w.heap.size ST.out.cur gg 0 m cap F D U HR.out h1 (by omega) hne).mono ?_
  rintro e w3 ⟨_, rfl, ⟨x, rfl, hx⟩, c3, g3⟩
  have HX := Lib.hid hx
  have HR3 := Lib.hid (HR.out.grown (by omega) g3 hne)
  have HB3 := Lib.hid c3.below
  clear hx c3 g3
  go_wp2_with fail
  go_ret2
  exact ⟨gg, m, cap, F, D, U, x, rfl, HR3.out, HG.out, hm, HX.out, HB3.out⟩
end Go.Proofs.Ytjclldiaddoobaa.rng
