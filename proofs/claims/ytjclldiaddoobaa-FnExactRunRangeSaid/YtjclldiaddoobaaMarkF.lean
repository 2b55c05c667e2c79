/- Marks in singles and ranges that the call made: markFloat32S, markRangeS. -/
import Derived.Test.YtjclldiaddoobaaMark
namespace Go.Proofs.Ytjclldiaddoobaa.rng
open Go.RowKit base Fl same draw
set_option linter.unusedVariables false
attribute [local go_sem] store_f

set_option maxHeartbeats 1000000 in
theorem markFloat32S (b n c : Nat) (q : Int) (q0 : 0 ≤ q) (q1 : q ≤ 10000000) (w : World) (hf : ∀ o, w.frozen? ⟨b, o, none⟩ = false) (hex : ∀ j, j < n → ∃ x, w.cell? ⟨b, j, none⟩ = some x) (hnc : n ≤ c) (hc : c ≤ 9223372036854775807) (hn : n ≤ 1048576) :
    Calls Try.prog 39 #[.slice (some ⟨b, 0, none⟩) n c, .int .i64 q] w fun e w' => e = .returned (.int .i64 (q + n)) ∧ w.grownBy w' (some b) := by
  go_enter Try.func39, Try.ntmps39
  go_wp2_with fail
  go_loopw [1, 5] (fun kv i wr => ∃ k : Nat, k ≤ n ∧ i = .int .i64 k ∧ kv = .int .i64 (q + k) ∧ (∀ o, wr.frozen? ⟨b, o, none⟩ = false) ∧ (∀ j, j < n → ∃ x, wr.cell? ⟨b, j, none⟩ = some x) ∧ w.grownBy wr (some b)) (fun _ i _ => n - (intOf i).toNat)
  case atStart => exact ⟨0, Nat.zero_le _, rfl, by simp, hf, hex, grown_refl _ _⟩
  case round =>
    obtain ⟨k, hk, rfl, rfl, hfr, hex', hgr⟩ := hrel
    have HF := Lib.hid hfr; have HE := Lib.hid hex'; have HG := Lib.hid hgr
    by_cases hkn : k < n
    · obtain ⟨x, t1⟩ := hex' k hkn
      have f1 := hfr k
      clear hfr hex' hgr hf hex
      go_wp2_with fail
      go_roundw
      case rel =>
        refine ⟨k + 1, by omega, by go_num, by go_num, fun o => by simp only [World.frozen?_setCell]; exact HF.out o, fun j hj => ?_, grown_set HG.out (Or.inl rfl) _⟩
        obtain ⟨y, hy⟩ := HE.out j hj
        exact cell?_setCell_some hy
      case measure => simp [intOf]; omega
    · have : k = n := by omega
      subst this
      clear hfr hex' hgr hf hex
      go_wp2_with fail
      go_ret
      exact ⟨rfl, HG.out⟩

set_option maxHeartbeats 1000000 in
theorem markRangeS (b n c : Nat) (w : World) (hf : ∀ o, w.frozen? ⟨b, o, none⟩ = false) (hex : ∀ j, j < n * 3 → ∃ x, w.cell? ⟨b, j, none⟩ = some x) (hnc : n ≤ c) (hc : c ≤ 9223372036854775807) (hn : n ≤ 1048576) :
    Calls Try.prog 38 #[.slice (some ⟨b, 0, none⟩) n c, .int .i64 1] w fun e w' => e = .returned (.int .i64 (1 + 3 * n)) ∧ w.grownBy w' (some b) := by
  go_enter Try.func38, Try.ntmps38
  go_wp2_with fail
  go_loopw [1, 5] (fun kv i wr => ∃ k : Nat, k ≤ n ∧ i = .int .i64 k ∧ kv = .int .i64 (1 + 3 * k) ∧ (∀ o, wr.frozen? ⟨b, o, none⟩ = false) ∧ (∀ j, j < n * 3 → ∃ x, wr.cell? ⟨b, j, none⟩ = some x) ∧ w.grownBy wr (some b)) (fun _ i _ => n - (intOf i).toNat)
  case atStart => exact ⟨0, Nat.zero_le _, rfl, by simp, hf, hex, grown_refl _ _⟩
  case round =>
    obtain ⟨k, hk, rfl, rfl, hfr, hex', hgr⟩ := hrel
    have HF := Lib.hid hfr; have HE := Lib.hid hex'; have HG := Lib.hid hgr
    by_cases hkn : k < n
    · obtain ⟨x, t1⟩ := hex' (k * 3) (by omega)
      obtain ⟨y, t2⟩ := hex' (k * 3 + 1) (by omega)
      obtain ⟨z, t3⟩ := hex' (k * 3 + 2) (by omega)
      have f1 := hfr (k * 3)
      have f2 := hfr (k * 3 + 1)
      have f3 := hfr (k * 3 + 2)
      clear hfr hex' hgr hf hex
      go_wp2_with fail
      go_roundw
      case rel =>
        refine ⟨k + 1, by omega, by go_num, by go_num, fun o => by simp only [World.frozen?_setCell]; exact HF.out o, fun j hj => ?_, grown_set (grown_set (grown_set HG.out (Or.inl rfl) _) (Or.inl rfl) _) (Or.inl rfl) _⟩
        obtain ⟨y1, h1⟩ := HE.out j hj
        obtain ⟨y2, h2⟩ := cell?_setCell_some h1
        obtain ⟨y3, h3⟩ := cell?_setCell_some h2
        exact cell?_setCell_some h3
      case measure => simp [intOf]; omega
    · have : k = n := by omega
      subst this
      clear hfr hex' hgr hf hex
      go_wp2_with fail
      go_ret
      exact ⟨rfl, HG.out⟩
end Go.Proofs.Ytjclldiaddoobaa.rng
