/-
  No cell of these rows narrows 'for every input' (looked for: loops, veiled, ifaces, maps, wideKeys, modest, calm, conditions, laid).
  DERIVED. THE GIVEN ROWS OF THIS SEAT. 4 by the template 'for every input the law returns true; each argument reads behind the call as it read before'; 0 by the template 'total and deterministic' (their statements: YtpbklllmplimaaaTotals.lean).
  GIVEN WITH THE SEED: the statements are not yours to turn. If you find one false, say at which input.
  Laid BY PROGRAM, IN A SANDBOX (cutbox-rows.mjs): the forced cells as the released guide's own fill.sh prints them over the translation af366062fc53ea4b… (all of the seat's roots in one cut). By AI agents, Wed Nov 11 2026. No macro, syntax, notation, axiom, sorry.
-/
import Derived.Test.YtpbklllmplimaaaChecked
import GoSem.Claim
import GoSem.ClaimJoined
import GoSem.ClaimMapViews
import Derived.JoinedTies
import Derived.KernelRfl
namespace Go.Proofs.Ytpbklllmplimaaa
/- THE CELL 'sum', in the pinned program and in every row, IS THE sha256 OF THE DUMP (.gsa) THAT YtpbklllmplimaaaProg.lean LOADS. Nothing in Lean hashes anything: it is a label: what it is worth is what the hold of that sum in a sandbox is worth. -/
noncomputable def Try.pinned : Pinned := { name := "ytpbklllmplimaaa", sum := "af366062fc53ea4b133901e3ed8920ce1065cb4041eac2864bcf450682f1183d", checked := Try.checked }
namespace Rows
def none {H : Type} : Left H := { results := [], args := [] }

/-- 'laws.FnExactMakeSingle': WHATEVER THE INPUT: true; the input reads as it did. -/
def fnExactMakeSingleSpec : ChangeSpec := { name := "fnExactMakeSingle", fn := fun _ => fun
  | [d1, d2, d3] => { results := [.lit (.bool true)], args := [d1, d2, d3] }
  | _ => none }
def fnExactMakeSingleRow : OpenClaim := { program := "ytpbklllmplimaaa", sum := "af366062fc53ea4b133901e3ed8920ce1065cb4041eac2864bcf450682f1183d", func := "loop.example/g03320/laws.FnExactMakeSingle", spec := "fnExactMakeSingle", inPlace := ["math.Float64bits", "math.Float64frombits"], apart := false }
def FnExactMakeSingleSaid : Prop := fnExactMakeSingleRow.holds Try.pinned (OpenSpec.ofChange fnExactMakeSingleSpec)

/-- ITS FALSE NEIGHBOUR: 'it returns false'. Refute it at one input. -/
def fnExactMakeSingleWrong : ChangeSpec := { name := "fnExactMakeSingle", fn := fun _ => fun
  | [d1, d2, d3] => { results := [.lit (.bool false)], args := [d1, d2, d3] }
  | _ => none }
def FnExactMakeSingleWrongFalsely : Prop := fnExactMakeSingleRow.holds Try.pinned (OpenSpec.ofChange fnExactMakeSingleWrong)

/-- 'laws.FnExactSplitSingle': WHATEVER THE INPUT: true; the input reads as it did. -/
def fnExactSplitSingleSpec : ChangeSpec := { name := "fnExactSplitSingle", fn := fun _ => fun
  | [d] => { results := [.lit (.bool true)], args := [d] }
  | _ => none }
def fnExactSplitSingleRow : OpenClaim := { program := "ytpbklllmplimaaa", sum := "af366062fc53ea4b133901e3ed8920ce1065cb4041eac2864bcf450682f1183d", func := "loop.example/g03320/laws.FnExactSplitSingle", spec := "fnExactSplitSingle", inPlace := ["math.Float64bits", "math.Float64frombits"], apart := false }
def FnExactSplitSingleSaid : Prop := fnExactSplitSingleRow.holds Try.pinned (OpenSpec.ofChange fnExactSplitSingleSpec)

/-- ITS FALSE NEIGHBOUR: 'it returns false'. Refute it at one input. -/
def fnExactSplitSingleWrong : ChangeSpec := { name := "fnExactSplitSingle", fn := fun _ => fun
  | [d] => { results := [.lit (.bool false)], args := [d] }
  | _ => none }
def FnExactSplitSingleWrongFalsely : Prop := fnExactSplitSingleRow.holds Try.pinned (OpenSpec.ofChange fnExactSplitSingleWrong)

/-- 'laws.FnExactReadDecimal': WHATEVER THE INPUT: true; the input reads as it did. -/
def fnExactReadDecimalSpec : ChangeSpec := { name := "fnExactReadDecimal", fn := fun _ => fun
  | [d] => { results := [.lit (.bool true)], args := [d] }
  | _ => none }
def fnExactReadDecimalRow : OpenClaim := { program := "ytpbklllmplimaaa", sum := "af366062fc53ea4b133901e3ed8920ce1065cb4041eac2864bcf450682f1183d", func := "loop.example/g03320/laws.FnExactReadDecimal", spec := "fnExactReadDecimal", inPlace := ["internal/bytealg.IndexByteString", "internal/bytealg.IndexString"], named := ["internal/bytealg.MaxLen"], apart := false }
def FnExactReadDecimalSaid : Prop := fnExactReadDecimalRow.holds Try.pinned (OpenSpec.ofChange fnExactReadDecimalSpec)

/-- ITS FALSE NEIGHBOUR: 'it returns false'. Refute it at one input. -/
def fnExactReadDecimalWrong : ChangeSpec := { name := "fnExactReadDecimal", fn := fun _ => fun
  | [d] => { results := [.lit (.bool false)], args := [d] }
  | _ => none }
def FnExactReadDecimalWrongFalsely : Prop := fnExactReadDecimalRow.holds Try.pinned (OpenSpec.ofChange fnExactReadDecimalWrong)

/-- 'laws.FnMadeAgain': WHATEVER THE INPUT: true; the input reads as it did. -/
def fnMadeAgainSpec : ChangeSpec := { name := "fnMadeAgain", fn := fun _ => fun
  | [d] => { results := [.lit (.bool true)], args := [d] }
  | _ => none }
def fnMadeAgainRow : OpenClaim := { program := "ytpbklllmplimaaa", sum := "af366062fc53ea4b133901e3ed8920ce1065cb4041eac2864bcf450682f1183d", func := "loop.example/g03320/laws.FnMadeAgain", spec := "fnMadeAgain", inPlace := ["math.Float64bits", "math.Float64frombits"], apart := false }
def FnMadeAgainSaid : Prop := fnMadeAgainRow.holds Try.pinned (OpenSpec.ofChange fnMadeAgainSpec)

/-- ITS FALSE NEIGHBOUR: 'it returns false'. Refute it at one input. -/
def fnMadeAgainWrong : ChangeSpec := { name := "fnMadeAgain", fn := fun _ => fun
  | [d] => { results := [.lit (.bool false)], args := [d] }
  | _ => none }
def FnMadeAgainWrongFalsely : Prop := fnMadeAgainRow.holds Try.pinned (OpenSpec.ofChange fnMadeAgainWrong)

/- THE SECOND FORM. 'bulk': how many values and letters a reading holds, each counted each time it is reached (what is shared counts as often as it is met; a slice's spare places count too). A statement '..UptoSaid' is the law's where the arguments, and the package variables that the reading takes, are together of bulk at most 1048576: NARROWER than '..Said'. Prove '..Said' where nothing that the law and all that it calls make is longer than what came in: it says more and counts as full. Else prove '..UptoSaid'. A law counts once. -/
mutual
def uptoBulk {H : Type} : DataW H → Nat
  | .lit (.string bytes) => bytes.length + 1
  | .lit _ => 1
  | .nil => 1
  | .ptr d => uptoBulk d + 1
  | .slice elems spare => uptoBulkAll elems + uptoBulkAll spare + 1
  | .agg parts => uptoBulkAll parts + 1
  | .iface _ d => uptoBulk d + 1
  | .map entries => uptoBulkEntries entries + 1
  | .held _ => 1
def uptoBulkAll {H : Type} : List (DataW H) → Nat
  | [] => 0
  | d :: r => uptoBulk d + uptoBulkAll r
def uptoBulkEntries {H : Type} : List (Lit × DataW H) → Nat
  | [] => 0
  | x :: r => uptoBulkEntry x + uptoBulkEntries r
def uptoBulkEntry {H : Type} : Lit × DataW H → Nat
  | (.string bytes, d) => bytes.length + uptoBulk d + 1
  | (_, d) => uptoBulk d + 1
 end
def uptoSmall : (H : Type) → List (DataW H) → Bool := fun _ ds => decide (uptoBulkAll ds ≤ 1048576)
def OpenSpec.upto (s : _root_.Go.ChangeSpec) : _root_.Go.OpenSpec := { _root_.Go.OpenSpec.ofChange s with cond := some uptoSmall }

/-- 'laws.FnExactMakeSingle', WHERE WHAT IT READS IS OF BULK AT MOST 1048576: true; the input reads as it did. -/
def fnExactMakeSingleUptoRow : OpenClaim := { program := "ytpbklllmplimaaa", sum := "af366062fc53ea4b133901e3ed8920ce1065cb4041eac2864bcf450682f1183d", func := "loop.example/g03320/laws.FnExactMakeSingle", spec := "fnExactMakeSingle", inPlace := ["math.Float64bits", "math.Float64frombits"], apart := false, narrowed := true }
def FnExactMakeSingleUptoSaid : Prop := fnExactMakeSingleUptoRow.holds Try.pinned (OpenSpec.upto fnExactMakeSingleSpec)

/-- 'laws.FnExactSplitSingle', WHERE WHAT IT READS IS OF BULK AT MOST 1048576: true; the input reads as it did. -/
def fnExactSplitSingleUptoRow : OpenClaim := { program := "ytpbklllmplimaaa", sum := "af366062fc53ea4b133901e3ed8920ce1065cb4041eac2864bcf450682f1183d", func := "loop.example/g03320/laws.FnExactSplitSingle", spec := "fnExactSplitSingle", inPlace := ["math.Float64bits", "math.Float64frombits"], apart := false, narrowed := true }
def FnExactSplitSingleUptoSaid : Prop := fnExactSplitSingleUptoRow.holds Try.pinned (OpenSpec.upto fnExactSplitSingleSpec)

/-- 'laws.FnExactReadDecimal', WHERE WHAT IT READS IS OF BULK AT MOST 1048576: true; the input reads as it did. -/
def fnExactReadDecimalUptoRow : OpenClaim := { program := "ytpbklllmplimaaa", sum := "af366062fc53ea4b133901e3ed8920ce1065cb4041eac2864bcf450682f1183d", func := "loop.example/g03320/laws.FnExactReadDecimal", spec := "fnExactReadDecimal", inPlace := ["internal/bytealg.IndexByteString", "internal/bytealg.IndexString"], named := ["internal/bytealg.MaxLen"], apart := false, narrowed := true }
def FnExactReadDecimalUptoSaid : Prop := fnExactReadDecimalUptoRow.holds Try.pinned (OpenSpec.upto fnExactReadDecimalSpec)

/-- 'laws.FnMadeAgain', WHERE WHAT IT READS IS OF BULK AT MOST 1048576: true; the input reads as it did. -/
def fnMadeAgainUptoRow : OpenClaim := { program := "ytpbklllmplimaaa", sum := "af366062fc53ea4b133901e3ed8920ce1065cb4041eac2864bcf450682f1183d", func := "loop.example/g03320/laws.FnMadeAgain", spec := "fnMadeAgain", inPlace := ["math.Float64bits", "math.Float64frombits"], apart := false, narrowed := true }
def FnMadeAgainUptoSaid : Prop := fnMadeAgainUptoRow.holds Try.pinned (OpenSpec.upto fnMadeAgainSpec)

end Rows
end Go.Proofs.Ytpbklllmplimaaa
