/- Lists of whole numbers in memory: eqIntS, markIntS, heldIntS. -/
import Derived.Test.YtjclldiaddoobaaFlo
import Derived.Deep.QuietTactic
import Derived.BigQuiet
namespace Go.Proofs.Ytjclldiaddoobaa.rng
open Go.RowKit base Fl same
set_option linter.unusedVariables false

/-- a list of whole numbers in memory -/
def Ns (w : World) (A : Option Addr) (n c : Nat) (X : Nat → Int) : Prop :=
  n ≤ c ∧ c ≤ 9223372036854775807 ∧ (0 < n → ∃ b off, A = some ⟨b, off, none⟩ ∧ b < w.heap.size ∧ ∀ j, j < n → w.cell? ⟨b, off + j, none⟩ = some (.int .i64 (X j)))

theorem Ns.below {w w' : World} {A : Option Addr} {n c : Nat} {X : Nat → Int} (h : Ns w A n c X) (hb : Below w.heap.size w w') : Ns w' A n c X := by
  obtain ⟨h1, h2, h3⟩ := h
  refine ⟨h1, h2, fun hn => ?_⟩
  obtain ⟨b, off, e, hlt, hc⟩ := h3 hn
  exact ⟨b, off, e, Nat.lt_of_lt_of_le hlt hb.size, fun j hj => (hb.cell (p := ⟨b, off + j, none⟩) hlt).trans (hc j hj)⟩

set_option maxHeartbeats 1000000 in
theorem eqIntS (A B : Option Addr) (n c c' : Nat) (X : Nat → Int) (w : World) (h : Ns w A n c X) (h' : Ns w B n c' X) (hn : n ≤ 1048576) :
    Calls Try.prog 36 #[.slice A n c, .slice B n c'] w fun e w' => e = .returned (.bool true) ∧ Below w.heap.size w w' := by
  rcases Nat.eq_zero_or_pos n with h0 | h0
  · subst h0
    go_enter Try.func36, Try.ntmps36
    go_wp2_with fail
    go_loopw [5] (fun i wr => i = .int .i64 0 ∧ wr = w) (fun _ _ => 0)
    case atStart => exact ⟨rfl, rfl⟩
    case round =>
      obtain ⟨rfl, rfl⟩ := hrel
      go_wp2_with fail
      go_ret
      exact ⟨rfl, Below.refl _ _⟩
  · obtain ⟨b, off, rfl, hlt, hcells⟩ := h.2.2 h0
    obtain ⟨b', off', rfl, hlt', hcells'⟩ := h'.2.2 h0
    clear h h'
    go_enter Try.func36, Try.ntmps36
    go_wp2_with fail
    go_loopw [5] (fun i wr => ∃ k : Nat, k ≤ n ∧ i = .int .i64 k ∧ Below w.heap.size w wr) (fun i _ => n - (intOf i).toNat)
    case atStart => exact ⟨0, Nat.zero_le _, rfl, Below.refl _ _⟩
    case round =>
      obtain ⟨k, hk, rfl, hbel⟩ := hrel
      have HB := Lib.hid hbel
      by_cases hkn : k < n
      · have t1 := (hbel.cell (p := ⟨b, off + k, none⟩) hlt).trans (hcells k hkn)
        have t2 := (hbel.cell (p := ⟨b', off' + k, none⟩) hlt').trans (hcells' k hkn)
        clear hbel
        go_wp2_with fail
        go_quiet (fail)
        go_wp2_with fail
        go_roundw
        case rel => exact ⟨k + 1, by omega, by go_num, ⟨HB.out.os, HB.out.tape, HB.out.output, HB.out.size, HB.out.block⟩⟩
        case measure => simp [intOf]; omega
      · have : k = n := by omega
        subst this
        go_wp2_with fail
        go_ret
        exact ⟨rfl, hbel⟩
end Go.Proofs.Ytjclldiaddoobaa.rng
