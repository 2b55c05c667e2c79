/- Contracts of RunRange in both packages. -/
import Derived.Test.YtjclldiaddoobaaRngT
import Derived.Test.YtjclldiaddoobaaIntL
import Derived.Test.YtjclldiaddoobaaDraw
import Derived.OwnWalk
import Derived.LoopTactic
namespace Go.Proofs.Ytjclldiaddoobaa.rng
open Go.RowKit base Fl same draw
set_option linter.unusedVariables false

/-- the rests of a run: each begins where the last came to rest -/
def Chain (n : Nat) (F D U : Nat → Nat) (X : Nat → Nat) (a : Int) (L : List Int) : Prop :=
  ∀ j, j < L.length → Settled n F D U (if j = 0 then a else L.getD (j - 1) 0) (X j) (L.getD j 0)
theorem Chain.unique {n : Nat} {F D U : Nat → Nat} {X : Nat → Nat} {a : Int} {L M : List Int} (h : Chain n F D U X a L) (h' : Chain n F D U X a M) (hl : L.length = M.length) : L = M := by
  have key : ∀ j, j < L.length → L.getD j 0 = M.getD j 0 := by
    intro j
    induction j with
    | zero => intro hj; exact (h 0 hj).unique (h' 0 (by omega))
    | succ j ih =>
      intro hj
      have e := ih (by omega)
      have a1 := h (j + 1) hj
      have a2 := h' (j + 1) (by omega)
      rw [if_neg (by omega), Nat.add_sub_cancel] at a1 a2
      rw [e] at a1
      exact a1.unique a2
  apply List.ext_getElem hl
  intro j h1 h2
  have := key j h1
  simpa [List.getD, h1, h2] using this
theorem Chain.step {n : Nat} {F D U : Nat → Nat} {X : Nat → Nat} {a : Int} {L : List Int} {r : Int} (h : Chain n F D U X a L) (hr : Settled n F D U (if L.length = 0 then a else L.getD (L.length - 1) 0) (X L.length) r) : Chain n F D U X a (L ++ [r]) := by
  intro j hj
  have len : (L ++ [r]).length = L.length + 1 := by simp
  rw [len] at hj
  have e1 : ∀ i, i < L.length → (L ++ [r]).getD i 0 = L.getD i 0 := fun i hi => by simp [List.getD, List.getElem?_append_left hi]
  by_cases hjl : j < L.length
  · have := h j hjl
    rw [e1 j hjl]
    by_cases h0 : j = 0
    · rw [if_pos h0] at this ⊢; exact this
    · rw [if_neg h0] at this ⊢; rw [e1 (j - 1) (by omega)]; exact this
  · obtain rfl : j = L.length := by omega
    rw [show (L ++ [r]).getD L.length 0 = r by simp [List.getD]]
    by_cases h0 : L.length = 0
    · rw [if_pos h0] at hr ⊢; exact hr
    · rw [if_neg h0] at hr ⊢; rw [e1 _ (by omega)]; exact hr

/-- what RunRange gives: a list of its own -/
def RunE (n m : Nat) (F D U X : Nat → Nat) (a : Int) (w : World) (e : Ending) (w' : World) : Prop := ∃ (v : Value) (L : List Int), e = .returned v ∧ w'.ownsRow w.heap.size 3 1 v L.length (L.map (Value.int .i64)) ∧
  ((okAt n F D U a && decide (m ≤ 100)) = true → L.length = m ∧ Chain n F D U X a L) ∧ ((okAt n F D U a && decide (m ≤ 100)) = false → L = []) ∧ Below w.heap.size w w'
end Go.Proofs.Ytjclldiaddoobaa.rng
