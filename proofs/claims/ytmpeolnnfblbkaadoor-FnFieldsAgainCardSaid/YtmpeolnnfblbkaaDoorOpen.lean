/- A law's bytes, opened: what the walk is told of a slice of bytes that came in. -/
import Derived.Test.YtmpeolnnfblbkaaDoorDraw
import Derived.ProofKit
import Derived.OpenShut
namespace Go.Proofs.YtmpeolnnfblbkaaDoor.draw
open Go.ChangeShapes Go.WideShapes Go.ChangeAt Go.RowKit
set_option linter.unusedVariables false

theorem bytes_of_trod {H : Type} {enc : TypeId × Value → H} {W : World} {a : Option Addr} {len cap : Nat} {d : DataW H} {p : List MemPlace}
    (h : DataW.Trod enc Tryd.prog W 0 (fun _ => true) true 32 (.slice a len cap) d p) : Bytes W a len cap := by
  obtain ⟨fuel, hf⟩ := h
  rcases open_ints Tryd.underlying32 Tryd.underlying5 (by kernel_rfl) hf with ⟨hcs, _⟩ | ⟨x, l, c, zs, hcs, _, hl, hm, hz, _, hcell, hwz⟩
  · simp [Value.cells] at hcs
    obtain ⟨rfl, rfl, rfl⟩ := hcs
    exact ⟨Nat.le_refl _, by omega, fun h => absurd h (by omega)⟩
  · simp [Value.cells] at hcs
    obtain ⟨rfl, rfl, rfl⟩ := hcs
    have hz' : zs.length = cap := by simpa using hz
    refine ⟨hl, by unfold maxLen at hm; omega, fun h => ?_⟩
    obtain ⟨b, off, rfl, hc⟩ := ints_at hcell (by omega)
    have hc0 := hc 0 (by omega)
    refine ⟨b, off, rfl, block_lt_of_cell hc0, fun j hj => ⟨_, hc j (by omega), ?_⟩⟩
    have hw := range_u8 hwz j
    simpa [List.getD] using hw
end Go.Proofs.YtmpeolnnfblbkaaDoor.draw
