/- A list that the text writes out, in memory. -/
import Derived.Test.YtpbklllmplimaaaDoorDraw
namespace Go.Proofs.YtpbklllmplimaaaDoor.draw
open Go.RowKit base
set_option linter.unusedVariables false

theorem cells_new (w : World) (l : List Int) (t : TypeId) : ∀ j, j < l.length → ∃ x : Int, (w.alloc (.cells (l.map (Value.int .i64)).toArray t)).cell? ⟨w.heap.size, 0 + j, none⟩ = some (.int .i64 x) ∧ x ∈ l := by
  intro j hj
  refine ⟨l[j], ?_, List.getElem_mem hj⟩
  rw [World.cell?_alloc_new]
  simp [hj]

end Go.Proofs.YtpbklllmplimaaaDoor.draw
