/- Marks in memory that the call made: markIntS, heldIntS. -/
import Derived.Test.YtjclldiaddoobaaIntL
import Derived.Test.YtjclldiaddoobaaDraw
namespace Go.Proofs.Ytjclldiaddoobaa.rng
open Go.RowKit base Fl same draw
set_option linter.unusedVariables false

set_option maxHeartbeats 1000000 in
theorem markIntS (b n c : Nat) (X : Nat → Int) (w : World) (h : Ns w (some ⟨b, 0, none⟩) n c X) (hf : ∀ o, w.frozen? ⟨b, o, none⟩ = false) (hn : n ≤ 1000) (hlt : b < w.heap.size) :
    Calls Try.prog 40 #[.slice (some ⟨b, 0, none⟩) n c, .int .i64 1] w fun e w' => e = .returned (.int .i64 (1 + n)) ∧ Ns w' (some ⟨b, 0, none⟩) n c (fun j => 1 + j) ∧ w.grownBy w' (some b) := by
  have hc0 := h.1
  have hc1 := h.2.1
  have hcells : ∀ j, j < n → w.cell? ⟨b, j, none⟩ = some (.int .i64 (X j)) := fun j hj => by
    obtain ⟨b', off', e, _, hc⟩ := h.2.2 (by omega)
    cases e
    have := hc j hj
    rwa [Nat.zero_add] at this
  clear h
  go_enter Try.func40, Try.ntmps40
  go_wp2_with fail
  go_loopw [1, 5] (fun kv i wr => ∃ k : Nat, k ≤ n ∧ i = .int .i64 k ∧ kv = .int .i64 (1 + k) ∧ (∀ o, wr.frozen? ⟨b, o, none⟩ = false) ∧ (∀ j, j < n → ∃ x, wr.cell? ⟨b, j, none⟩ = some x) ∧ (∀ j, j < k → wr.cell? ⟨b, j, none⟩ = some (.int .i64 (1 + j))) ∧ w.grownBy wr (some b)) (fun _ i _ => n - (intOf i).toNat)
  case atStart => exact ⟨0, Nat.zero_le _, rfl, by simp, hf, fun j hj => ⟨_, hcells j hj⟩, fun j hj => absurd hj (by omega), grown_refl _ _⟩
  case round =>
    obtain ⟨k, hk, rfl, rfl, hfr, hex, hdone, hgr⟩ := hrel
    have HF := Lib.hid hfr; have HE := Lib.hid hex; have HD := Lib.hid hdone; have HG := Lib.hid hgr
    by_cases hkn : k < n
    · obtain ⟨x, t1⟩ := hex k hkn
      have f1 := hfr k
      clear hfr hex hdone hgr
      go_wp2_with fail
      go_roundw
      case rel =>
        refine ⟨k + 1, by omega, by go_num, by go_num, fun o => by simp only [World.frozen?_setCell]; exact HF.out o, fun j hj => ?_, fun j hj => ?_, grown_set HG.out (Or.inl rfl) _⟩
        · obtain ⟨y, hy⟩ := HE.out j hj
          exact cell?_setCell_some hy
        · by_cases hjk : j = k
          · subst hjk; exact World.cell?_setCell_same _ _ _ t1
          · rw [World.cell?_setCell_other _ _ _ _ (by intro e; injection e with _ e; exact hjk e.symm)]
            exact HD.out j (by omega)
      case measure => simp [intOf]; omega
    · have : k = n := by omega
      subst this
      clear hfr hex hdone hgr
      go_wp2_with fail
      go_ret
      exact ⟨rfl, ⟨hc0, hc1, fun _ => ⟨b, 0, rfl, Nat.lt_of_lt_of_le hlt HG.out.size, fun j hj => by rw [Nat.zero_add]; exact HD.out j hj⟩⟩, HG.out⟩
theorem heldIntS (A : Option Addr) (n c : Nat) (w : World) (h : Ns w A n c (fun j => 1 + j)) (hn : n ≤ 1000) :
    Calls Try.prog 41 #[.slice A n c, .int .i64 1] w fun e w' => e = .returned (.int .i64 (1 + n)) ∧ w = w' := by
  rcases Nat.eq_zero_or_pos n with h0 | h0
  · subst h0
    go_enter Try.func41, Try.ntmps41
    go_wp2_with fail
    go_loopw [1, 5] (fun kv i wr => i = .int .i64 0 ∧ kv = .int .i64 1 ∧ wr = w) (fun _ _ _ => 0)
    case atStart => exact ⟨rfl, rfl, rfl⟩
    case round =>
      obtain ⟨rfl, rfl, rfl⟩ := hrel
      go_wp2_with fail
      go_ret
      exact ⟨rfl, rfl⟩
  · obtain ⟨b, off, rfl, hlt, hcells⟩ := h.2.2 h0
    clear h
    go_enter Try.func41, Try.ntmps41
    go_wp2_with fail
    go_loopw [1, 5] (fun kv i wr => ∃ k : Nat, k ≤ n ∧ i = .int .i64 k ∧ kv = .int .i64 (1 + k) ∧ wr = w) (fun _ i _ => n - (intOf i).toNat)
    case atStart => exact ⟨0, Nat.zero_le _, rfl, by simp, rfl⟩
    case round =>
      obtain ⟨k, hk, rfl, rfl, rfl⟩ := hrel
      by_cases hkn : k < n
      · have t1 := hcells k hkn
        clear hcells
        go_wp2_with fail
        go_roundw
        case rel => exact ⟨k + 1, by omega, by go_num, by go_num, trivial⟩
        case measure => simp [intOf]; omega
      · have : k = n := by omega
        subst this
        go_wp2_with fail
        go_ret
        exact ⟨rfl, rfl⟩
end Go.Proofs.Ytjclldiaddoobaa.rng
