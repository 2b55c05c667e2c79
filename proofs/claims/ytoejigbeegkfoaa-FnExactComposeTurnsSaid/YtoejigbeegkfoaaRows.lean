/-
  No cell of these rows narrows 'for every input' (looked for: loops, veiled, ifaces, maps, wideKeys, modest, calm, conditions, laid).
  DERIVED. THE GIVEN ROWS OF THIS SEAT. 6 by the template 'for every input the law returns true; each argument reads behind the call as it read before'; 0 by the template 'total and deterministic' (their statements: YtoejigbeegkfoaaTotals.lean).
  GIVEN WITH THE SEED: the statements are not yours to turn. If you find one false, say at which input.
  Laid BY PROGRAM, IN A SANDBOX (cutbox-rows.mjs): the forced cells as the released guide's own fill.sh prints them over the translation 55bdf0e68a4864f8… (all of the seat's roots in one cut). By AI agents, Wed Nov 11 2026. No macro, syntax, notation, axiom, sorry.
-/
import Derived.Test.YtoejigbeegkfoaaChecked
import GoSem.Claim
import GoSem.ClaimJoined
import GoSem.ClaimMapViews
import Derived.JoinedTies
import Derived.KernelRfl
namespace Go.Proofs.Ytoejigbeegkfoaa
/- THE CELL 'sum', in the pinned program and in every row, IS THE sha256 OF THE DUMP (.gsa) THAT YtoejigbeegkfoaaProg.lean LOADS. Nothing in Lean hashes anything: it is a label: what it is worth is what the hold of that sum in a sandbox is worth. -/
noncomputable def Try.pinned : Pinned := { name := "ytoejigbeegkfoaa", sum := "55bdf0e68a4864f84e791c035ce9f6a21519d935901a3bc5f01ea51a4108aed4", checked := Try.checked }
namespace Rows
def none {H : Type} : Left H := { results := [], args := [] }

/-- 'laws.FnExactInverseTurn': WHATEVER THE INPUT: true; the input reads as it did. -/
def fnExactInverseTurnSpec : ChangeSpec := { name := "fnExactInverseTurn", fn := fun _ => fun
  | [d] => { results := [.lit (.bool true)], args := [d] }
  | _ => none }
def fnExactInverseTurnRow : OpenClaim := { program := "ytoejigbeegkfoaa", sum := "55bdf0e68a4864f84e791c035ce9f6a21519d935901a3bc5f01ea51a4108aed4", func := "loop.example/g03320/laws.FnExactInverseTurn", spec := "fnExactInverseTurn", apart := false }
def FnExactInverseTurnSaid : Prop := fnExactInverseTurnRow.holds Try.pinned (OpenSpec.ofChange fnExactInverseTurnSpec)

/-- ITS FALSE NEIGHBOUR: 'it returns false'. Refute it at one input. -/
def fnExactInverseTurnWrong : ChangeSpec := { name := "fnExactInverseTurn", fn := fun _ => fun
  | [d] => { results := [.lit (.bool false)], args := [d] }
  | _ => none }
def FnExactInverseTurnWrongFalsely : Prop := fnExactInverseTurnRow.holds Try.pinned (OpenSpec.ofChange fnExactInverseTurnWrong)

/-- 'laws.FnExactComposeTurns': WHATEVER THE INPUT: true; the input reads as it did. -/
def fnExactComposeTurnsSpec : ChangeSpec := { name := "fnExactComposeTurns", fn := fun _ => fun
  | [d1, d2] => { results := [.lit (.bool true)], args := [d1, d2] }
  | _ => none }
def fnExactComposeTurnsRow : OpenClaim := { program := "ytoejigbeegkfoaa", sum := "55bdf0e68a4864f84e791c035ce9f6a21519d935901a3bc5f01ea51a4108aed4", func := "loop.example/g03320/laws.FnExactComposeTurns", spec := "fnExactComposeTurns", apart := false }
def FnExactComposeTurnsSaid : Prop := fnExactComposeTurnsRow.holds Try.pinned (OpenSpec.ofChange fnExactComposeTurnsSpec)

/-- ITS FALSE NEIGHBOUR: 'it returns false'. Refute it at one input. -/
def fnExactComposeTurnsWrong : ChangeSpec := { name := "fnExactComposeTurns", fn := fun _ => fun
  | [d1, d2] => { results := [.lit (.bool false)], args := [d1, d2] }
  | _ => none }
def FnExactComposeTurnsWrongFalsely : Prop := fnExactComposeTurnsRow.holds Try.pinned (OpenSpec.ofChange fnExactComposeTurnsWrong)

/-- 'laws.FnClamped': WHATEVER THE INPUT: true; the input reads as it did. -/
def fnClampedSpec : ChangeSpec := { name := "fnClamped", fn := fun _ => fun
  | [d] => { results := [.lit (.bool true)], args := [d] }
  | _ => none }
def fnClampedRow : OpenClaim := { program := "ytoejigbeegkfoaa", sum := "55bdf0e68a4864f84e791c035ce9f6a21519d935901a3bc5f01ea51a4108aed4", func := "loop.example/g03320/laws.FnClamped", spec := "fnClamped", apart := false }
def FnClampedSaid : Prop := fnClampedRow.holds Try.pinned (OpenSpec.ofChange fnClampedSpec)

/-- ITS FALSE NEIGHBOUR: 'it returns false'. Refute it at one input. -/
def fnClampedWrong : ChangeSpec := { name := "fnClamped", fn := fun _ => fun
  | [d] => { results := [.lit (.bool false)], args := [d] }
  | _ => none }
def FnClampedWrongFalsely : Prop := fnClampedRow.holds Try.pinned (OpenSpec.ofChange fnClampedWrong)

/-- 'laws.FnSigns': WHATEVER THE INPUT: true; the input reads as it did. -/
def fnSignsSpec : ChangeSpec := { name := "fnSigns", fn := fun _ => fun
  | [d] => { results := [.lit (.bool true)], args := [d] }
  | _ => none }
def fnSignsRow : OpenClaim := { program := "ytoejigbeegkfoaa", sum := "55bdf0e68a4864f84e791c035ce9f6a21519d935901a3bc5f01ea51a4108aed4", func := "loop.example/g03320/laws.FnSigns", spec := "fnSigns", inPlace := ["math.Float64bits"], apart := false }
def FnSignsSaid : Prop := fnSignsRow.holds Try.pinned (OpenSpec.ofChange fnSignsSpec)

/-- ITS FALSE NEIGHBOUR: 'it returns false'. Refute it at one input. -/
def fnSignsWrong : ChangeSpec := { name := "fnSigns", fn := fun _ => fun
  | [d] => { results := [.lit (.bool false)], args := [d] }
  | _ => none }
def FnSignsWrongFalsely : Prop := fnSignsRow.holds Try.pinned (OpenSpec.ofChange fnSignsWrong)

/-- 'laws.FnSides': WHATEVER THE INPUT: true; the input reads as it did. -/
def fnSidesSpec : ChangeSpec := { name := "fnSides", fn := fun _ => fun
  | [d] => { results := [.lit (.bool true)], args := [d] }
  | _ => none }
def fnSidesRow : OpenClaim := { program := "ytoejigbeegkfoaa", sum := "55bdf0e68a4864f84e791c035ce9f6a21519d935901a3bc5f01ea51a4108aed4", func := "loop.example/g03320/laws.FnSides", spec := "fnSides", apart := false }
def FnSidesSaid : Prop := fnSidesRow.holds Try.pinned (OpenSpec.ofChange fnSidesSpec)

/-- ITS FALSE NEIGHBOUR: 'it returns false'. Refute it at one input. -/
def fnSidesWrong : ChangeSpec := { name := "fnSides", fn := fun _ => fun
  | [d] => { results := [.lit (.bool false)], args := [d] }
  | _ => none }
def FnSidesWrongFalsely : Prop := fnSidesRow.holds Try.pinned (OpenSpec.ofChange fnSidesWrong)

/-- 'laws.FnRatioOne': WHATEVER THE INPUT: true; the input reads as it did. -/
def fnRatioOneSpec : ChangeSpec := { name := "fnRatioOne", fn := fun _ => fun
  | [d] => { results := [.lit (.bool true)], args := [d] }
  | _ => none }
def fnRatioOneRow : OpenClaim := { program := "ytoejigbeegkfoaa", sum := "55bdf0e68a4864f84e791c035ce9f6a21519d935901a3bc5f01ea51a4108aed4", func := "loop.example/g03320/laws.FnRatioOne", spec := "fnRatioOne", inPlace := ["math.Float64bits", "math.Float64frombits"], apart := false }
def FnRatioOneSaid : Prop := fnRatioOneRow.holds Try.pinned (OpenSpec.ofChange fnRatioOneSpec)

/-- ITS FALSE NEIGHBOUR: 'it returns false'. Refute it at one input. -/
def fnRatioOneWrong : ChangeSpec := { name := "fnRatioOne", fn := fun _ => fun
  | [d] => { results := [.lit (.bool false)], args := [d] }
  | _ => none }
def FnRatioOneWrongFalsely : Prop := fnRatioOneRow.holds Try.pinned (OpenSpec.ofChange fnRatioOneWrong)

/- THE SECOND FORM. 'bulk': how many values and letters a reading holds, each counted each time it is reached (what is shared counts as often as it is met; a slice's spare places count too). A statement '..UptoSaid' is the law's where the arguments, and the package variables that the reading takes, are together of bulk at most 1048576: NARROWER than '..Said'. Prove '..Said' where nothing that the law and all that it calls make is longer than what came in: it says more and counts as full. Else prove '..UptoSaid'. A law counts once. -/
mutual
def uptoBulk {H : Type} : DataW H → Nat
  | .lit (.string bytes) => bytes.length + 1
  | .lit _ => 1
  | .nil => 1
  | .ptr d => uptoBulk d + 1
  | .slice elems spare => uptoBulkAll elems + uptoBulkAll spare + 1
  | .agg parts => uptoBulkAll parts + 1
  | .iface _ d => uptoBulk d + 1
  | .map entries => uptoBulkEntries entries + 1
  | .held _ => 1
def uptoBulkAll {H : Type} : List (DataW H) → Nat
  | [] => 0
  | d :: r => uptoBulk d + uptoBulkAll r
def uptoBulkEntries {H : Type} : List (Lit × DataW H) → Nat
  | [] => 0
  | x :: r => uptoBulkEntry x + uptoBulkEntries r
def uptoBulkEntry {H : Type} : Lit × DataW H → Nat
  | (.string bytes, d) => bytes.length + uptoBulk d + 1
  | (_, d) => uptoBulk d + 1
 end
def uptoSmall : (H : Type) → List (DataW H) → Bool := fun _ ds => decide (uptoBulkAll ds ≤ 1048576)
def OpenSpec.upto (s : _root_.Go.ChangeSpec) : _root_.Go.OpenSpec := { _root_.Go.OpenSpec.ofChange s with cond := some uptoSmall }

/-- 'laws.FnExactInverseTurn', WHERE WHAT IT READS IS OF BULK AT MOST 1048576: true; the input reads as it did. -/
def fnExactInverseTurnUptoRow : OpenClaim := { program := "ytoejigbeegkfoaa", sum := "55bdf0e68a4864f84e791c035ce9f6a21519d935901a3bc5f01ea51a4108aed4", func := "loop.example/g03320/laws.FnExactInverseTurn", spec := "fnExactInverseTurn", apart := false, narrowed := true }
def FnExactInverseTurnUptoSaid : Prop := fnExactInverseTurnUptoRow.holds Try.pinned (OpenSpec.upto fnExactInverseTurnSpec)

/-- 'laws.FnExactComposeTurns', WHERE WHAT IT READS IS OF BULK AT MOST 1048576: true; the input reads as it did. -/
def fnExactComposeTurnsUptoRow : OpenClaim := { program := "ytoejigbeegkfoaa", sum := "55bdf0e68a4864f84e791c035ce9f6a21519d935901a3bc5f01ea51a4108aed4", func := "loop.example/g03320/laws.FnExactComposeTurns", spec := "fnExactComposeTurns", apart := false, narrowed := true }
def FnExactComposeTurnsUptoSaid : Prop := fnExactComposeTurnsUptoRow.holds Try.pinned (OpenSpec.upto fnExactComposeTurnsSpec)

/-- 'laws.FnClamped', WHERE WHAT IT READS IS OF BULK AT MOST 1048576: true; the input reads as it did. -/
def fnClampedUptoRow : OpenClaim := { program := "ytoejigbeegkfoaa", sum := "55bdf0e68a4864f84e791c035ce9f6a21519d935901a3bc5f01ea51a4108aed4", func := "loop.example/g03320/laws.FnClamped", spec := "fnClamped", apart := false, narrowed := true }
def FnClampedUptoSaid : Prop := fnClampedUptoRow.holds Try.pinned (OpenSpec.upto fnClampedSpec)

/-- 'laws.FnSigns', WHERE WHAT IT READS IS OF BULK AT MOST 1048576: true; the input reads as it did. -/
def fnSignsUptoRow : OpenClaim := { program := "ytoejigbeegkfoaa", sum := "55bdf0e68a4864f84e791c035ce9f6a21519d935901a3bc5f01ea51a4108aed4", func := "loop.example/g03320/laws.FnSigns", spec := "fnSigns", inPlace := ["math.Float64bits"], apart := false, narrowed := true }
def FnSignsUptoSaid : Prop := fnSignsUptoRow.holds Try.pinned (OpenSpec.upto fnSignsSpec)

/-- 'laws.FnSides', WHERE WHAT IT READS IS OF BULK AT MOST 1048576: true; the input reads as it did. -/
def fnSidesUptoRow : OpenClaim := { program := "ytoejigbeegkfoaa", sum := "55bdf0e68a4864f84e791c035ce9f6a21519d935901a3bc5f01ea51a4108aed4", func := "loop.example/g03320/laws.FnSides", spec := "fnSides", apart := false, narrowed := true }
def FnSidesUptoSaid : Prop := fnSidesUptoRow.holds Try.pinned (OpenSpec.upto fnSidesSpec)

/-- 'laws.FnRatioOne', WHERE WHAT IT READS IS OF BULK AT MOST 1048576: true; the input reads as it did. -/
def fnRatioOneUptoRow : OpenClaim := { program := "ytoejigbeegkfoaa", sum := "55bdf0e68a4864f84e791c035ce9f6a21519d935901a3bc5f01ea51a4108aed4", func := "loop.example/g03320/laws.FnRatioOne", spec := "fnRatioOne", inPlace := ["math.Float64bits", "math.Float64frombits"], apart := false, narrowed := true }
def FnRatioOneUptoSaid : Prop := fnRatioOneUptoRow.holds Try.pinned (OpenSpec.upto fnRatioOneSpec)

end Rows
end Go.Proofs.Ytoejigbeegkfoaa
