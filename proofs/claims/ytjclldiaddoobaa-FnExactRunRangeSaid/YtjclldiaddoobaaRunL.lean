/- A run's list, as the law reads it. -/
import Derived.Test.YtjclldiaddoobaaRngRS
import Derived.Test.YtjclldiaddoobaaMark
namespace Go.Proofs.Ytjclldiaddoobaa.rng
open Go.RowKit base Fl same draw
set_option linter.unusedVariables false

/-- a list that lies in a block of its own from B on (or nowhere) -/
structure Own (w : World) (B : Nat) (A : Option Addr) : Prop where
  at_ : A = none ∨ ∃ b, A = some ⟨b, 0, none⟩ ∧ B ≤ b ∧ b < w.heap.size ∧ ∀ o, w.frozen? ⟨b, o, none⟩ = false

theorem own_ns {w : World} {B : Nat} {v : Value} {L : List Int} (h : w.ownsRow B 3 1 v L.length (L.map (Value.int .i64))) :
    ∃ A cap, v = .slice A L.length cap ∧ Ns w A L.length cap (fun j => L.getD j 0) ∧ Own w B A := by
  have h' := h
  rcases h.2 with ⟨rfl, h0⟩ | ⟨gg, cap, cur, rfl, hb, hh, hc, hm, _, _⟩
  · refine ⟨none, 0, by rw [h0], ⟨by omega, by omega, fun h => absurd h (by omega)⟩, ⟨Or.inl rfl⟩⟩
  · have hlt : gg < w.heap.size := by
      rcases Nat.lt_or_ge gg w.heap.size with h | h
      · exact h
      · rw [Array.getElem?_eq_none h] at hh; cases hh
    refine ⟨some ⟨gg, 0, none⟩, cap, rfl, ⟨hc, by unfold maxLen at hm; omega, fun _ => ⟨gg, 0, rfl, hlt, fun j hj => ?_⟩⟩, ⟨Or.inr ⟨gg, rfl, hb, hlt, fun o => h'.frozenAt o⟩⟩⟩
    rw [Nat.zero_add, h'.cellAt j (by omega)]
    simp [List.getD, hj]

theorem Own.below {w w' : World} {B : Nat} {A : Option Addr} (h : Own w B A) (hb : Below w.heap.size w w') : Own w' B A := by
  rcases h.at_ with e | ⟨b, e, h1, h2, h3⟩
  · exact ⟨Or.inl e⟩
  · exact ⟨Or.inr ⟨b, e, h1, Nat.lt_of_lt_of_le h2 hb.size, fun o => (hb.frozen (p := ⟨b, o, none⟩) h2).trans (h3 o)⟩⟩
theorem frozen_of_block {w w' : World} {b o : Nat} (h : w'.heap[b]? = w.heap[b]?) : w'.frozen? ⟨b, o, none⟩ = w.frozen? ⟨b, o, none⟩ := by simp [World.frozen?, h]
theorem Own.grown {w w' : World} {B g : Nat} {A : Option Addr} (h : Own w B A) (k : w.grownBy w' (some g)) (hg : g < B) : Own w' B A := by
  rcases h.at_ with e | ⟨b, e, h1, h2, h3⟩
  · exact ⟨Or.inl e⟩
  · exact ⟨Or.inr ⟨b, e, h1, Nat.lt_of_lt_of_le h2 k.size, fun o => (frozen_of_block (k.block b h2 (by simp; omega))).trans (h3 o)⟩⟩
/-- a list that lies elsewhere is as it was -/
theorem Ns.grown {w w' : World} {A : Option Addr} {n c : Nat} {X : Nat → Int} {g : Nat} (h : Ns w A n c X) (k : w.grownBy w' (some g)) (hg : ∀ b off, A = some ⟨b, off, none⟩ → b ≠ g) : Ns w' A n c X := by
  obtain ⟨h1, h2, h3⟩ := h
  refine ⟨h1, h2, fun hn => ?_⟩
  obtain ⟨b, off, e, hlt, hc⟩ := h3 hn
  exact ⟨b, off, e, Nat.lt_of_lt_of_le hlt k.size, fun j hj => (World.cell?_of_block (k.block b hlt (by simp [hg b off e]))).trans (hc j hj)⟩

/-- marks in a list of the call's own, or in none -/
theorem markAny (A : Option Addr) (n c B : Nat) (X : Nat → Int) (w : World) (h : Ns w A n c X) (ho : Own w B A) (hn : n ≤ 1000) (h0 : A = none → n = 0) :
    Calls Try.prog 40 #[.slice A n c, .int .i64 1] w fun e w' => e = .returned (.int .i64 (1 + n)) ∧ Ns w' A n c (fun j => 1 + j) ∧ (w' = w ∨ ∃ b, A = some ⟨b, 0, none⟩ ∧ w.grownBy w' (some b)) := by
  rcases ho.at_ with rfl | ⟨b, rfl, hb, hlt, hf⟩
  · obtain rfl := h0 rfl
    have hc := h.2.1
    go_enter Try.func40, Try.ntmps40
    go_wp2_with fail
    go_loopw [1, 5] (fun kv i wr => i = .int .i64 0 ∧ kv = .int .i64 1 ∧ wr = w) (fun _ _ _ => 0)
    case atStart => exact ⟨rfl, rfl, rfl⟩
    case round =>
      obtain ⟨rfl, rfl, rfl⟩ := hrel
      go_wp2_with fail
      go_ret
      exact ⟨rfl, ⟨by omega, hc, fun h => absurd h (by omega)⟩, Or.inl rfl⟩
  · exact (markIntS b n c X w h hf hn hlt).mono fun e w' ⟨h1, h2, h3⟩ => ⟨h1, h2, Or.inr ⟨b, rfl, h3⟩⟩
end Go.Proofs.Ytjclldiaddoobaa.rng
