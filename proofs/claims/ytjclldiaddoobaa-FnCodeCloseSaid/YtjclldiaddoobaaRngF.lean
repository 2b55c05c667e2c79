/- Contracts of amount, rangeOk and Overload. -/
import Derived.Test.YtjclldiaddoobaaRngOkI
import Derived.RegionTactic
namespace Go.Proofs.Ytjclldiaddoobaa.rng
open Go.RowKit base Fl same
set_option linter.unusedVariables false

/-- a callee that turns nothing and draws nothing, inside a quiet region -/
theorem qs {P : Program} {f : FuncId} {args : Array Value} {w : World} {n : Nat} {v : Value} (h : Calls P f args (w.drewN n) fun e w' => e = .returned v ∧ w.drewN n = w') :
    Calls P f args (w.drewN n) fun e w'' => e = .returned v ∧ ∃ m, w'' = w.drewN m := Calls.quiet_of_same (h.mono fun _ _ h => ⟨h.1, h.2.symm⟩)

/-- a single without its sign -/
def amt (x : Nat) : Nat := if S.order x 0 == some .lt then Op.negFloat .f32 x else x

theorem l02Amount (x : Nat) (w : World) : Calls Try.prog 51 #[.float .f32 x] w fun e w' => e = .returned (.float .f32 (amt x)) ∧ w = w' := by
  have hn := fun k b => unary_neg_float k b
  cases h : (S.order x 0 == some .lt) with
  | true =>
    have e : amt x = Op.negFloat .f32 x := by unfold amt; rw [h]; rfl
    rw [e]; clear e
    go_enter Try.func51, Try.ntmps51
    go_wp2
    go_ret
    exact ⟨rfl, rfl⟩
  | false =>
    have e : amt x = x := by unfold amt; rw [h]; rfl
    rw [e]; clear e
    go_enter Try.func51, Try.ntmps51
    go_wp2
    go_ret
    exact ⟨rfl, rfl⟩
theorem amount (x : Nat) (w : World) : Calls Try.prog 52 #[.float .f32 x] w fun e w' => e = .returned (.float .f32 (amt x)) ∧ w = w' := by
  have hn := fun k b => unary_neg_float k b
  cases h : (S.order x 0 == some .lt) with
  | true =>
    have e : amt x = Op.negFloat .f32 x := by unfold amt; rw [h]; rfl
    rw [e]; clear e
    go_enter Try.func52, Try.ntmps52
    go_wp2
    go_ret
    exact ⟨rfl, rfl⟩
  | false =>
    have e : amt x = x := by unfold amt; rw [h]; rfl
    rw [e]; clear e
    go_enter Try.func52, Try.ntmps52
    go_wp2
    go_ret
    exact ⟨rfl, rfl⟩

def inB (n : Nat) (a : Int) : Bool := decide (0 ≤ a ∧ a ≤ (n : Int) - 1)
/-- the list is right, and there is such a range -/
def okAt (n : Nat) (F D U : Nat → Nat) (a : Int) : Bool := goodB n F D U && inB n a

theorem rangeOk (A : Option Addr) (n c : Nat) (F D U : Nat → Nat) (a : Int) (w : World) (h : Rs w A n c F D U) :
    Calls Try.prog 50 #[.slice A n c, .int .i64 a] w fun e w' => e = .returned (.bool (okAt n F D U a)) ∧ Below w.heap.size w w' := by
  have hn : n ≤ 9223372036854775807 := Nat.le_trans h.1 h.2.1
  cases hg : goodB n F D U with
  | false =>
    go_enter Try.func50, Try.ntmps50
    go_wp2_with fail
    refine (impl_ok A n c F D U _ h).mono ?_
    rintro e w1 ⟨rfl, b1⟩
    rw [hg]
    go_wp2_with fail
    go_ret
    exact ⟨by unfold okAt; rw [hg]; rfl, b1⟩
  | true =>
    go_enter Try.func50, Try.ntmps50
    go_wp2_with fail
    refine (impl_ok A n c F D U _ h).mono ?_
    rintro e w1 ⟨rfl, b1⟩
    rw [hg]
    have e1 : RowKit.wrap64 ((n : Int) - 1) = (n : Int) - 1 := by unfold RowKit.wrap64; omega
    go_wp2_with fail
    refine (inR.within_any _ _ _ _).mono ?_
    rintro e w2 ⟨rfl, rfl⟩
    go_wp2_with fail
    go_ret
    refine ⟨?_, b1⟩
    unfold okAt inB
    rw [hg]
    simp
theorem rangeOk_of (A : Option Addr) (n c : Nat) (F D U : Nat → Nat) (a : Int) (w : World) (h : Rs w A n c F D U) {r : Bool} (hr : okAt n F D U a = r) :
    Calls Try.prog 50 #[.slice A n c, .int .i64 a] w fun e w' => e = .returned (.bool r) ∧ Below w.heap.size w w' := by
  subst hr; exact rangeOk A n c F D U a w h
end Go.Proofs.Ytjclldiaddoobaa.rng
