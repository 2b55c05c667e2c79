/- DecodeHex in package spec, walked. -/
import Derived.Test.YtmpeolnnfblbkaaDoorHexE
import Derived.Outline
namespace Go.Proofs.YtmpeolnnfblbkaaDoor.hex
open Go.RowKit base
set_option linter.unusedVariables false

/-- what DecodeHex tells -/
def DecE (s : ByteArray) (w : World) (e : Ending) (w' : World) : Prop := e = .returned (.tuple #[.string ⟨(decV s).toArray⟩, .bool (decOk s)]) ∧ Below w.heap.size w w'

theorem pr_at (s : ByteArray) (k : Nat) (h : 2 * k + 1 < s.size) : pr s k = (s[2 * k], s[2 * k + 1]) := by
  have h2 : 2 * k + 1 < s.data.toList.length := by simpa using h
  unfold pr
  rw [List.getD_eq_getElem?_getD, List.getD_eq_getElem?_getD, List.getElem?_eq_getElem (show 2 * k < s.data.toList.length by omega), List.getElem?_eq_getElem h2]
  rfl
theorem byteP_int {x y : Int} (h0 : 0 ≤ x) (h1 : x ≤ 15) (h2 : 0 ≤ y) (h3 : y ≤ 15) : ((UInt8.ofNat (16 * x + y).toNat).toNat : Int) = 16 * x + y := by
  rw [UInt8.toNat_ofNat', Nat.mod_eq_of_lt (by omega)]
  omega
theorem dec_step (s : ByteArray) (k : Nat) {x y : Int} (hx : val (pr s k).1 = x) (hy : val (pr s k).2 = y) (h0 : 0 ≤ x) (h1 : x ≤ 15) (h2 : 0 ≤ y) (h3 : y ≤ 15) :
    Lib.byteCells (decAt s (k + 1)) = Lib.byteCells (decAt s k) ++ [.int .u8 (16 * x + y)] := by
  rw [decAt_succ, Lib.byteCells_append]
  simp only [Lib.byteCells, List.map_cons, List.map_nil]
  unfold byteP
  rw [hx, hy, byteP_int h0 h1 h2 h3]

end Go.Proofs.YtmpeolnnfblbkaaDoor.hex
