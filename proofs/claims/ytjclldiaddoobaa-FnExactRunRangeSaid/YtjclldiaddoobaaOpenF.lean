/- A law's singles, opened. -/
import Derived.Test.YtjclldiaddoobaaFlo
import Derived.Test.YtjclldiaddoobaaOpenR
namespace Go.Proofs.Ytjclldiaddoobaa.rng
open Go.ChangeShapes Go.WideShapes Go.ChangeAt Go.RowKit Go.Deep Fl same
set_option linter.unusedVariables false

theorem choose1 {P : Nat → Nat → Prop} {n : Nat} (h : ∀ i, i < n → ∃ f, P i f) : ∃ F : Nat → Nat, ∀ i, i < n → P i (F i) := by
  refine ⟨fun i => if h' : i < n then (h i h').choose else 0, fun i hi => ?_⟩
  simp only [dif_pos hi]
  exact (h i hi).choose_spec

theorem floats_of_trod {H : Type} {enc : TypeId × Value → H} {W : World} {a : Option Addr} {len cap : Nat} {d : DataW H} {p : List MemPlace}
    (h : DataW.Trod enc Try.prog W 0 (fun _ => true) true 42 (.slice a len cap) d p) : ∃ X : Nat → Nat, Fs W a len cap X := by
  obtain ⟨fuel, hf⟩ := h
  rcases open_slice Try.underlying42 hf with ⟨hcs, _⟩ | ⟨ad, l, c, m, n, Dd, Pl, hcs, _, hl, hm, hmm, _, hi⟩
  · simp [Value.cells] at hcs
    obtain ⟨rfl, rfl, rfl⟩ := hcs
    exact ⟨fun _ => 0, Nat.le_refl _, by omega, fun h => absurd h (by omega)⟩
  · simp [Value.cells] at hcs
    obtain ⟨rfl, rfl, rfl⟩ := hcs
    have hmm' : m = cap := by simpa using hmm
    have hone : ∀ i, i < len → ∃ f : Nat, W.cell? (ad.add i) = some (.float .f32 f) ∧ f < 2 ^ 32 := by
      intro i hil
      obtain ⟨cs', hc, ht⟩ := hi i (by omega)
      rw [show Try.prog.cellsOf 29 = 1 from by kernel_rfl] at hc
      obtain ⟨_, hcl, hat⟩ := World.cells?_some hc
      obtain ⟨f, e0, w0⟩ := trod_f Try.underlying29 ht
      subst e0
      have a0 := hat 0 (by omega)
      rw [Go.Deep.add_add, Nat.mul_one, Nat.add_zero] at a0
      exact ⟨f, a0, lt_of_wf w0⟩
    by_cases h0 : 0 < len
    · obtain ⟨b, off, spot⟩ := ad
      obtain ⟨f, hx, _⟩ := hone 0 h0
      have hspot : spot = none := by simpa [Addr.add] using World.cell?_spot hx
      subst hspot
      obtain ⟨X, hX⟩ := choose1 hone
      refine ⟨X, hl, by unfold maxLen at hm; omega, fun _ => ⟨b, off, rfl, block_lt_of_cell hx, fun j hj => ?_⟩⟩
      obtain ⟨q1, q2⟩ := hX j hj
      rw [Go.WideShapes.add_plain] at q1
      exact ⟨q1, q2⟩
    · exact ⟨fun _ => 0, hl, by unfold maxLen at hm; omega, fun h => absurd h h0⟩
end Go.Proofs.Ytjclldiaddoobaa.rng
