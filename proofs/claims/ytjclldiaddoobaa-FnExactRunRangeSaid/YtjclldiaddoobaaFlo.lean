/- Lists of singles in memory; what the law's helpers do with them. -/
import Derived.Test.YtjclldiaddoobaaRngEq
import Derived.Deep.RegionHeld3
import Derived.Deep.QuietTactic
import Derived.BigQuiet
namespace Go.Proofs.Ytjclldiaddoobaa.rng
open Go.RowKit base Fl same
set_option linter.unusedVariables false
attribute [local go_sem] store_f

/-- a list of singles in memory -/
def Fs (w : World) (A : Option Addr) (n c : Nat) (X : Nat → Nat) : Prop :=
  n ≤ c ∧ c ≤ 9223372036854775807 ∧ (0 < n → ∃ b off, A = some ⟨b, off, none⟩ ∧ b < w.heap.size ∧ ∀ j, j < n → w.cell? ⟨b, off + j, none⟩ = some (.float .f32 (X j)) ∧ X j < 2 ^ 32)

theorem Fs.below {w w' : World} {A : Option Addr} {n c : Nat} {X : Nat → Nat} (h : Fs w A n c X) (hb : Below w.heap.size w w') : Fs w' A n c X := by
  obtain ⟨h1, h2, h3⟩ := h
  refine ⟨h1, h2, fun hn => ?_⟩
  obtain ⟨b, off, e, hlt, hc⟩ := h3 hn
  exact ⟨b, off, e, Nat.lt_of_lt_of_le hlt hb.size, fun j hj => ⟨(hb.cell (p := ⟨b, off + j, none⟩) hlt).trans (hc j hj).1, (hc j hj).2⟩⟩

def FRow (w : World) (g n k : Nat) (X : Nat → Nat) : Prop :=
  g < w.heap.size ∧ (∀ o, w.frozen? ⟨g, o, none⟩ = false) ∧ (∀ j, j < n → ∃ x, w.cell? ⟨g, j, none⟩ = some x) ∧ ∀ j, j < k → w.cell? ⟨g, j, none⟩ = some (.float .f32 (X j))
theorem FRow.made (w : World) (n : Nat) (X : Nat → Nat) : FRow (w.alloc (.cells (madeCells #[.float .f32 0] n) 29)) w.heap.size n 0 X := by
  refine ⟨by simp, fun o => by simp, fun j hj => ?_, fun j hj => absurd hj (by omega)⟩
  rw [World.cell?_alloc_new]
  exact ⟨_, Array.getElem?_eq_getElem (by rw [size_madeCells]; exact hj)⟩
theorem FRow.step {w : World} {g n k : Nat} {X : Nat → Nat} (h : FRow w g n k X) (hk : k < n) : FRow (w.setCell ⟨g, k, none⟩ (.float .f32 (X k))) g n (k + 1) X := by
  obtain ⟨h1, h2, h3, h4⟩ := h
  refine ⟨by simpa using h1, fun o => by simp only [World.frozen?_setCell]; exact h2 o, fun j hj => ?_, fun j hj => ?_⟩
  · obtain ⟨x, hx⟩ := h3 j hj
    exact cell?_setCell_some hx
  · by_cases hjk : j = k
    · subst hjk
      obtain ⟨x, hx⟩ := h3 j hk
      exact World.cell?_setCell_same _ _ _ hx
    · rw [World.cell?_setCell_other _ _ _ _ (by intro e; injection e with _ e; exact hjk e.symm)]
      exact h4 j (by omega)

set_option maxHeartbeats 1000000 in
theorem toFloat32S (A : Option Addr) (n c : Nat) (X : Nat → Nat) (w : World) (h : Fs w A n c X) (hn : n ≤ 1048576) :
    Calls Try.prog 34 #[.slice A n c] w fun e w' => ∃ g, e = .returned (.slice (some ⟨g, 0, none⟩) n n) ∧ Fs w' (some ⟨g, 0, none⟩) n n X ∧ FRow w' g n n X ∧ Below w.heap.size w w' ∧ w.heap.size ≤ g ∧ g < w'.heap.size := by
  obtain ⟨i0, hi, hz0, hz1, hz2⟩ := info_parts (P := Try.prog) (e := 29) (z := .float .f32 0) (size := 1) (bytes := 4) (by kernel_rfl)
  have hmk : ∀ W : World, (Instr.makeSlice 42 (.int .i64 (n : Int)) (.int .i64 (n : Int))).run Try.prog W = .ok (.slice (some ⟨W.heap.size, 0, none⟩) n n) (W.alloc (.cells (madeCells #[.float .f32 0] n) 29)) := by
    intro W
    have := run_make (P := Try.prog) W 42 29 i0 (.float .f32 0) Try.underlying42 hi hz0 .i64 .i64 n n (by omega) (by omega) (by rw [hz2]; omega) (by omega)
    rw [hz1] at this
    simpa [Value.cells] using this
  have hk := h.1
  rcases Nat.eq_zero_or_pos n with h0 | h0
  · subst h0
    have hmk0 : ∀ W : World, (Instr.makeSlice 42 (.int .i64 0) (.int .i64 0)).run Try.prog W = .ok (.slice (some ⟨W.heap.size, 0, none⟩) 0 0) (W.alloc (.cells (madeCells #[.float .f32 0] 0) 29)) := hmk
    clear hmk
    have hrow := Lib.hid (FRow.made w 0 X)
    go_enter Try.func34, Try.ntmps34
    go_wp2_with fail
    go_loopw [4] (fun i wr => i = .int .i64 0 ∧ FRow wr w.heap.size 0 0 X ∧ Below w.heap.size w wr) (fun _ _ => 0)
    case atStart => exact ⟨rfl, hrow.out, (Below.refl _ _).alloc (Nat.le_refl _) _⟩
    case round =>
      obtain ⟨rfl, hs, hb⟩ := hrel
      go_wp2_with fail
      go_ret
      exact ⟨_, rfl, ⟨Nat.le_refl _, by omega, fun h => absurd h (by omega)⟩, hs, hb, Nat.le_refl _, hs.1⟩
  · obtain ⟨b, off, rfl, hlt, hcells⟩ := h.2.2 h0
    clear h
    go_enter Try.func34, Try.ntmps34
    go_wp2_with fail
    go_loopw [4] (fun i wr => ∃ k : Nat, k ≤ n ∧ i = .int .i64 k ∧ FRow wr w.heap.size n k X ∧ Below w.heap.size w wr) (fun i _ => n - (intOf i).toNat)
    case atStart => exact ⟨0, Nat.zero_le _, rfl, FRow.made w n X, (Below.refl _ _).alloc (Nat.le_refl _) _⟩
    case round =>
      obtain ⟨k, hk, rfl, hrow, hbel⟩ := hrel
      have HR := Lib.hid hrow
      have HB := Lib.hid hbel
      by_cases hkn : k < n
      · have t1 := (hbel.cell (p := ⟨b, off + k, none⟩) hlt).trans (hcells k hkn).1
        obtain ⟨x, g1⟩ := hrow.2.2.1 k hkn
        have f1 := hrow.2.1 k
        clear hrow hbel
        go_wp2_with fail
        go_roundw
        case rel => exact ⟨k + 1, by omega, by go_num, HR.out.step hkn, HB.out.setCell (p := ⟨w.heap.size, _, none⟩) (Nat.le_refl _) _⟩
        case measure => simp [intOf]; omega
      · have : k = n := by omega
        subst this
        clear hrow hbel
        go_wp2_with fail
        go_ret
        have hlast := HR.out
        refine ⟨_, rfl, ⟨Nat.le_refl _, by omega, fun _ => ⟨_, _, rfl, hlast.1, fun j hj => ?_⟩⟩, hlast, HB.out, Nat.le_refl _, hlast.1⟩
        rw [Nat.zero_add]
        exact ⟨hlast.2.2.2 j hj, (hcells j hj).2⟩
end Go.Proofs.Ytjclldiaddoobaa.rng
