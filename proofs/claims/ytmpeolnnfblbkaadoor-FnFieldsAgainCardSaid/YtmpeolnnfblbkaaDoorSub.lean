/- Regions that draw their order, with callees that lay memory of their own: the class of worlds in which all that was there is as it was. -/
import Derived.Test.YtmpeolnnfblbkaaDoorBase
import Derived.Deep.QuietTactic
import Derived.BigQuiet
import Derived.Below
namespace Go.Proofs.YtmpeolnnfblbkaaDoor.base
open Go.RowKit
set_option linter.unusedVariables false

/-- a world that has grown out of w -/
def Sub (w : World) := { w' : World // Below w.heap.size w w' }

instance (w : World) : Nonempty (Sub w) := ⟨⟨w, Below.refl _ _⟩⟩

theorem wp_sub {P : Program} {id : Nat} {Q : Exit → Act → World → Prop} {a : Act} {w : World} {l : List Oper} (hm : P.follows .mixedOrders = true) (hB : Region.lexB .any l.toArray = true)
    (h : wpQuiet P l.toArray (fun w' => ∃ u : Sub w, w' = u.val) (fun a' => ∀ w', (∃ u : Sub w, w' = u.val) → Q .normal a' w') l a) : (Code.region id l.toArray true).wp P Q a w :=
  wp_region_quiet (C := fun w' => ∃ u : Sub w, w' = u.val) hm hB ⟨⟨w.drew, (Below.refl _ _).drew⟩, rfl⟩ (by simpa using h)

theorem Sub.cell {w : World} {b o : Nat} {v : Value} (h : w.cell? ⟨b, o, none⟩ = some v) (hlt : b < w.heap.size) (u : Sub w) : u.val.cell? ⟨b, o, none⟩ = some v := (u.2.cell (p := ⟨b, o, none⟩) hlt).trans h

/-- a callee that lays memory of its own -/
theorem sub_call {P : Program} {f : FuncId} {args : Array Value} {w : World} {u : Sub w} {v : Value} (h : Calls P f args u.val fun e w' => e = .returned v ∧ Below u.val.heap.size u.val w') :
    Calls P f args u.val fun e w'' => e = .returned v ∧ ∃ u' : Sub w, w'' = u'.val := h.mono fun _ w' h => ⟨h.1, ⟨⟨w', u.2.trans (h.2.mono u.2.size)⟩, rfl⟩⟩
/-- a callee that turns nothing -/
theorem sub_same {P : Program} {f : FuncId} {args : Array Value} {w : World} {u : Sub w} {v : Value} (h : Calls P f args u.val fun e w' => e = .returned v ∧ u.val = w') :
    Calls P f args u.val fun e w'' => e = .returned v ∧ ∃ u' : Sub w, w'' = u'.val := h.mono fun _ w' h => ⟨h.1, ⟨u, h.2.symm⟩⟩
end Go.Proofs.YtmpeolnnfblbkaaDoor.base
