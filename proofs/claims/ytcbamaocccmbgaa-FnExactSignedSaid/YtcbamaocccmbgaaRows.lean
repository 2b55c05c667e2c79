/-
  No cell of these rows narrows 'for every input' (looked for: loops, veiled, ifaces, maps, wideKeys, modest, calm, conditions, laid).
  DERIVED. THE GIVEN ROWS OF THIS SEAT. 6 by the template 'for every input the law returns true; each argument reads behind the call as it read before'; 0 by the template 'total and deterministic' (their statements: YtcbamaocccmbgaaTotals.lean).
  GIVEN WITH THE SEED: the statements are not yours to turn. If you find one false, say at which input.
  Laid BY PROGRAM, IN A SANDBOX (cutbox-rows.mjs): the forced cells as the released guide's own fill.sh prints them over the translation 5c6f746ab484806f… (all of the seat's roots in one cut). By AI agents, Wed Nov 11 2026. No macro, syntax, notation, axiom, sorry.
-/
import Derived.Test.YtcbamaocccmbgaaChecked
import GoSem.Claim
import GoSem.ClaimJoined
import GoSem.ClaimMapViews
import Derived.JoinedTies
import Derived.KernelRfl
namespace Go.Proofs.Ytcbamaocccmbgaa
/- THE CELL 'sum', in the pinned program and in every row, IS THE sha256 OF THE DUMP (.gsa) THAT YtcbamaocccmbgaaProg.lean LOADS. Nothing in Lean hashes anything: it is a label: what it is worth is what the hold of that sum in a sandbox is worth. -/
noncomputable def Try.pinned : Pinned := { name := "ytcbamaocccmbgaa", sum := "5c6f746ab484806ffa7b09933ead4e718dc6846bb7716478bb05ea1e3ca72946", checked := Try.checked }
namespace Rows
def none {H : Type} : Left H := { results := [], args := [] }

/-- 'laws.FnExactConstants': WHATEVER THE INPUT: true; the input reads as it did. -/
def fnExactConstantsSpec : ChangeSpec := { name := "fnExactConstants", fn := fun _ => fun
  | [] => { results := [.lit (.bool true)], args := [] }
  | _ => none }
def fnExactConstantsRow : OpenClaim := { program := "ytcbamaocccmbgaa", sum := "5c6f746ab484806ffa7b09933ead4e718dc6846bb7716478bb05ea1e3ca72946", func := "loop.example/g03320/laws.FnExactConstants", spec := "fnExactConstants", apart := false }
def FnExactConstantsSaid : Prop := fnExactConstantsRow.holds Try.pinned (OpenSpec.ofChange fnExactConstantsSpec)

/-- ITS FALSE NEIGHBOUR: 'it returns false'. Refute it at one input. -/
def fnExactConstantsWrong : ChangeSpec := { name := "fnExactConstants", fn := fun _ => fun
  | [] => { results := [.lit (.bool false)], args := [] }
  | _ => none }
def FnExactConstantsWrongFalsely : Prop := fnExactConstantsRow.holds Try.pinned (OpenSpec.ofChange fnExactConstantsWrong)

/-- 'laws.FnExactTurnOk': WHATEVER THE INPUT: true; the input reads as it did. -/
def fnExactTurnOkSpec : ChangeSpec := { name := "fnExactTurnOk", fn := fun _ => fun
  | [d] => { results := [.lit (.bool true)], args := [d] }
  | _ => none }
def fnExactTurnOkRow : OpenClaim := { program := "ytcbamaocccmbgaa", sum := "5c6f746ab484806ffa7b09933ead4e718dc6846bb7716478bb05ea1e3ca72946", func := "loop.example/g03320/laws.FnExactTurnOk", spec := "fnExactTurnOk", apart := false }
def FnExactTurnOkSaid : Prop := fnExactTurnOkRow.holds Try.pinned (OpenSpec.ofChange fnExactTurnOkSpec)

/-- ITS FALSE NEIGHBOUR: 'it returns false'. Refute it at one input. -/
def fnExactTurnOkWrong : ChangeSpec := { name := "fnExactTurnOk", fn := fun _ => fun
  | [d] => { results := [.lit (.bool false)], args := [d] }
  | _ => none }
def FnExactTurnOkWrongFalsely : Prop := fnExactTurnOkRow.holds Try.pinned (OpenSpec.ofChange fnExactTurnOkWrong)

/-- 'laws.FnExactClamp': WHATEVER THE INPUT: true; the input reads as it did. -/
def fnExactClampSpec : ChangeSpec := { name := "fnExactClamp", fn := fun _ => fun
  | [d1, d2, d3] => { results := [.lit (.bool true)], args := [d1, d2, d3] }
  | _ => none }
def fnExactClampRow : OpenClaim := { program := "ytcbamaocccmbgaa", sum := "5c6f746ab484806ffa7b09933ead4e718dc6846bb7716478bb05ea1e3ca72946", func := "loop.example/g03320/laws.FnExactClamp", spec := "fnExactClamp", apart := false }
def FnExactClampSaid : Prop := fnExactClampRow.holds Try.pinned (OpenSpec.ofChange fnExactClampSpec)

/-- ITS FALSE NEIGHBOUR: 'it returns false'. Refute it at one input. -/
def fnExactClampWrong : ChangeSpec := { name := "fnExactClamp", fn := fun _ => fun
  | [d1, d2, d3] => { results := [.lit (.bool false)], args := [d1, d2, d3] }
  | _ => none }
def FnExactClampWrongFalsely : Prop := fnExactClampRow.holds Try.pinned (OpenSpec.ofChange fnExactClampWrong)

/-- 'laws.FnExactSignText': WHATEVER THE INPUT: true; the input reads as it did. -/
def fnExactSignTextSpec : ChangeSpec := { name := "fnExactSignText", fn := fun _ => fun
  | [d] => { results := [.lit (.bool true)], args := [d] }
  | _ => none }
def fnExactSignTextRow : OpenClaim := { program := "ytcbamaocccmbgaa", sum := "5c6f746ab484806ffa7b09933ead4e718dc6846bb7716478bb05ea1e3ca72946", func := "loop.example/g03320/laws.FnExactSignText", spec := "fnExactSignText", inPlace := ["math.Float64bits"], apart := false }
def FnExactSignTextSaid : Prop := fnExactSignTextRow.holds Try.pinned (OpenSpec.ofChange fnExactSignTextSpec)

/-- ITS FALSE NEIGHBOUR: 'it returns false'. Refute it at one input. -/
def fnExactSignTextWrong : ChangeSpec := { name := "fnExactSignText", fn := fun _ => fun
  | [d] => { results := [.lit (.bool false)], args := [d] }
  | _ => none }
def FnExactSignTextWrongFalsely : Prop := fnExactSignTextRow.holds Try.pinned (OpenSpec.ofChange fnExactSignTextWrong)

/-- 'laws.FnExactSameSingle': WHATEVER THE INPUT: true; the input reads as it did. -/
def fnExactSameSingleSpec : ChangeSpec := { name := "fnExactSameSingle", fn := fun _ => fun
  | [d1, d2] => { results := [.lit (.bool true)], args := [d1, d2] }
  | _ => none }
def fnExactSameSingleRow : OpenClaim := { program := "ytcbamaocccmbgaa", sum := "5c6f746ab484806ffa7b09933ead4e718dc6846bb7716478bb05ea1e3ca72946", func := "loop.example/g03320/laws.FnExactSameSingle", spec := "fnExactSameSingle", inPlace := ["math.Float64bits"], apart := false }
def FnExactSameSingleSaid : Prop := fnExactSameSingleRow.holds Try.pinned (OpenSpec.ofChange fnExactSameSingleSpec)

/-- ITS FALSE NEIGHBOUR: 'it returns false'. Refute it at one input. -/
def fnExactSameSingleWrong : ChangeSpec := { name := "fnExactSameSingle", fn := fun _ => fun
  | [d1, d2] => { results := [.lit (.bool false)], args := [d1, d2] }
  | _ => none }
def FnExactSameSingleWrongFalsely : Prop := fnExactSameSingleRow.holds Try.pinned (OpenSpec.ofChange fnExactSameSingleWrong)

/-- 'laws.FnExactSigned': WHATEVER THE INPUT: true; the input reads as it did. -/
def fnExactSignedSpec : ChangeSpec := { name := "fnExactSigned", fn := fun _ => fun
  | [d1, d2] => { results := [.lit (.bool true)], args := [d1, d2] }
  | _ => none }
def fnExactSignedRow : OpenClaim := { program := "ytcbamaocccmbgaa", sum := "5c6f746ab484806ffa7b09933ead4e718dc6846bb7716478bb05ea1e3ca72946", func := "loop.example/g03320/laws.FnExactSigned", spec := "fnExactSigned", apart := false }
def FnExactSignedSaid : Prop := fnExactSignedRow.holds Try.pinned (OpenSpec.ofChange fnExactSignedSpec)

/-- ITS FALSE NEIGHBOUR: 'it returns false'. Refute it at one input. -/
def fnExactSignedWrong : ChangeSpec := { name := "fnExactSigned", fn := fun _ => fun
  | [d1, d2] => { results := [.lit (.bool false)], args := [d1, d2] }
  | _ => none }
def FnExactSignedWrongFalsely : Prop := fnExactSignedRow.holds Try.pinned (OpenSpec.ofChange fnExactSignedWrong)

/- THE SECOND FORM. 'bulk': how many values and letters a reading holds, each counted each time it is reached (what is shared counts as often as it is met; a slice's spare places count too). A statement '..UptoSaid' is the law's where the arguments, and the package variables that the reading takes, are together of bulk at most 1048576: NARROWER than '..Said'. Prove '..Said' where nothing that the law and all that it calls make is longer than what came in: it says more and counts as full. Else prove '..UptoSaid'. A law counts once. -/
mutual
def uptoBulk {H : Type} : DataW H → Nat
  | .lit (.string bytes) => bytes.length + 1
  | .lit _ => 1
  | .nil => 1
  | .ptr d => uptoBulk d + 1
  | .slice elems spare => uptoBulkAll elems + uptoBulkAll spare + 1
  | .agg parts => uptoBulkAll parts + 1
  | .iface _ d => uptoBulk d + 1
  | .map entries => uptoBulkEntries entries + 1
  | .held _ => 1
def uptoBulkAll {H : Type} : List (DataW H) → Nat
  | [] => 0
  | d :: r => uptoBulk d + uptoBulkAll r
def uptoBulkEntries {H : Type} : List (Lit × DataW H) → Nat
  | [] => 0
  | x :: r => uptoBulkEntry x + uptoBulkEntries r
def uptoBulkEntry {H : Type} : Lit × DataW H → Nat
  | (.string bytes, d) => bytes.length + uptoBulk d + 1
  | (_, d) => uptoBulk d + 1
 end
def uptoSmall : (H : Type) → List (DataW H) → Bool := fun _ ds => decide (uptoBulkAll ds ≤ 1048576)
def OpenSpec.upto (s : _root_.Go.ChangeSpec) : _root_.Go.OpenSpec := { _root_.Go.OpenSpec.ofChange s with cond := some uptoSmall }

/-- 'laws.FnExactConstants', WHERE WHAT IT READS IS OF BULK AT MOST 1048576: true; the input reads as it did. -/
def fnExactConstantsUptoRow : OpenClaim := { program := "ytcbamaocccmbgaa", sum := "5c6f746ab484806ffa7b09933ead4e718dc6846bb7716478bb05ea1e3ca72946", func := "loop.example/g03320/laws.FnExactConstants", spec := "fnExactConstants", apart := false, narrowed := true }
def FnExactConstantsUptoSaid : Prop := fnExactConstantsUptoRow.holds Try.pinned (OpenSpec.upto fnExactConstantsSpec)

/-- 'laws.FnExactTurnOk', WHERE WHAT IT READS IS OF BULK AT MOST 1048576: true; the input reads as it did. -/
def fnExactTurnOkUptoRow : OpenClaim := { program := "ytcbamaocccmbgaa", sum := "5c6f746ab484806ffa7b09933ead4e718dc6846bb7716478bb05ea1e3ca72946", func := "loop.example/g03320/laws.FnExactTurnOk", spec := "fnExactTurnOk", apart := false, narrowed := true }
def FnExactTurnOkUptoSaid : Prop := fnExactTurnOkUptoRow.holds Try.pinned (OpenSpec.upto fnExactTurnOkSpec)

/-- 'laws.FnExactClamp', WHERE WHAT IT READS IS OF BULK AT MOST 1048576: true; the input reads as it did. -/
def fnExactClampUptoRow : OpenClaim := { program := "ytcbamaocccmbgaa", sum := "5c6f746ab484806ffa7b09933ead4e718dc6846bb7716478bb05ea1e3ca72946", func := "loop.example/g03320/laws.FnExactClamp", spec := "fnExactClamp", apart := false, narrowed := true }
def FnExactClampUptoSaid : Prop := fnExactClampUptoRow.holds Try.pinned (OpenSpec.upto fnExactClampSpec)

/-- 'laws.FnExactSignText', WHERE WHAT IT READS IS OF BULK AT MOST 1048576: true; the input reads as it did. -/
def fnExactSignTextUptoRow : OpenClaim := { program := "ytcbamaocccmbgaa", sum := "5c6f746ab484806ffa7b09933ead4e718dc6846bb7716478bb05ea1e3ca72946", func := "loop.example/g03320/laws.FnExactSignText", spec := "fnExactSignText", inPlace := ["math.Float64bits"], apart := false, narrowed := true }
def FnExactSignTextUptoSaid : Prop := fnExactSignTextUptoRow.holds Try.pinned (OpenSpec.upto fnExactSignTextSpec)

/-- 'laws.FnExactSameSingle', WHERE WHAT IT READS IS OF BULK AT MOST 1048576: true; the input reads as it did. -/
def fnExactSameSingleUptoRow : OpenClaim := { program := "ytcbamaocccmbgaa", sum := "5c6f746ab484806ffa7b09933ead4e718dc6846bb7716478bb05ea1e3ca72946", func := "loop.example/g03320/laws.FnExactSameSingle", spec := "fnExactSameSingle", inPlace := ["math.Float64bits"], apart := false, narrowed := true }
def FnExactSameSingleUptoSaid : Prop := fnExactSameSingleUptoRow.holds Try.pinned (OpenSpec.upto fnExactSameSingleSpec)

/-- 'laws.FnExactSigned', WHERE WHAT IT READS IS OF BULK AT MOST 1048576: true; the input reads as it did. -/
def fnExactSignedUptoRow : OpenClaim := { program := "ytcbamaocccmbgaa", sum := "5c6f746ab484806ffa7b09933ead4e718dc6846bb7716478bb05ea1e3ca72946", func := "loop.example/g03320/laws.FnExactSigned", spec := "fnExactSigned", apart := false, narrowed := true }
def FnExactSignedUptoSaid : Prop := fnExactSignedUptoRow.holds Try.pinned (OpenSpec.upto fnExactSignedSpec)

end Rows
end Go.Proofs.Ytcbamaocccmbgaa
