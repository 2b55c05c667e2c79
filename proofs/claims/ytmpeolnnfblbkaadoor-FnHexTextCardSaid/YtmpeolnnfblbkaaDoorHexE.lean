/- EncodeHex in package spec, walked. -/
import Derived.Test.YtmpeolnnfblbkaaDoorHexF
import Derived.Lib.UnsafeStr
import Derived.Laws.IdiomStrings
import Derived.Laws.OwnMore
import Derived.Laws.AppendOwn
import Derived.OwnWalk
import Derived.LoopTactic
import Derived.Test.YtmpeolnnfblbkaaDoorOwnStep
import Derived.RegionTactic

import Derived.IntWalk
namespace Go.Proofs.YtmpeolnnfblbkaaDoor.hex
open Go.RowKit base
set_option linter.unusedVariables false

def encB (s : ByteArray) : Bool := decide (s.size ≤ 20000)
def encL (s : ByteArray) : List UInt8 := if s.size ≤ 20000 then enc s.data.toList else []
/-- what EncodeHex tells -/
def EncE (s : ByteArray) (w : World) (e : Ending) (w' : World) : Prop := e = .returned (.tuple #[.string ⟨(encL s).toArray⟩, .bool (encB s)]) ∧ Below w.heap.size w w'

theorem take_snoc (s : ByteArray) (k : Nat) (h : k < s.size) : s.data.toList.take (k + 1) = s.data.toList.take k ++ [s[k]] := by
  rw [List.take_succ_eq_append_getElem (by simpa using h)]; rfl

theorem enc_step (s : ByteArray) (k : Nat) (h : k < s.size) : Lib.byteCells (enc (s.data.toList.take (k + 1))) = Lib.byteCells (enc (s.data.toList.take k)) ++ [.int .u8 (figI ((s[k].toNat : Int) / 16)), .int .u8 (figI ((s[k].toNat : Int) % 16))] := by
  have hb := s[k].toNat_lt
  rw [take_snoc s k h, enc_snoc, Lib.byteCells_append, figI_of (n := s[k].toNat / 16) (by omega), figI_of (n := s[k].toNat % 16) (by omega)]
  simp only [Lib.byteCells, List.map_cons, List.map_nil]
  rw [figB_toNat (by omega), figB_toNat (by omega)]

end Go.Proofs.YtmpeolnnfblbkaaDoor.hex
