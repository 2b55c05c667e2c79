/- The copy of a list of ranges: its block is the call's own, and not frozen. -/
import Derived.Test.YtjclldiaddoobaaRng
namespace Go.Proofs.Ytjclldiaddoobaa.rng
open Go.RowKit base Fl same
set_option linter.unusedVariables false
attribute [local go_sem] store_f

set_option maxHeartbeats 1000000 in
theorem toRangeR (A : Option Addr) (n c : Nat) (F D U : Nat → Nat) (w : World) (h : Rs w A n c F D U) (hn : n ≤ 1048576) :
    Calls Try.prog 17 #[.slice A n c] w fun e w' => ∃ g, e = .returned (.slice (some ⟨g, 0, none⟩) n n) ∧ Rs w' (some ⟨g, 0, none⟩) n n F D U ∧ Row w' g n n F D U ∧ Below w.heap.size w w' ∧ w.heap.size ≤ g ∧ g < w'.heap.size := by
  obtain ⟨i0, hi, hz0, hz1, hz2⟩ := info_parts (P := Try.prog) (e := 57) (z := .agg #[.float .f32 0, .float .f32 0, .float .f32 0]) (size := 3) (bytes := 12) (by kernel_rfl)
  have hmk : ∀ W : World, (Instr.makeSlice 25 (.int .i64 (n : Int)) (.int .i64 (n : Int))).run Try.prog W = .ok (.slice (some ⟨W.heap.size, 0, none⟩) n n) (W.alloc (.cells (madeCells #[.float .f32 0, .float .f32 0, .float .f32 0] (n * 3)) 57)) := by
    intro W
    have := run_make (P := Try.prog) W 25 57 i0 (.agg #[.float .f32 0, .float .f32 0, .float .f32 0]) Try.underlying25 hi hz0 .i64 .i64 n n (by omega) (by omega) (by rw [hz2]; omega) (by omega)
    rw [hz1] at this
    simpa [Value.cells] using this
  have hk := h.1
  rcases Nat.eq_zero_or_pos n with h0 | h0
  · subst h0
    have hmk0 : ∀ W : World, (Instr.makeSlice 25 (.int .i64 0) (.int .i64 0)).run Try.prog W = .ok (.slice (some ⟨W.heap.size, 0, none⟩) 0 0) (W.alloc (.cells (madeCells #[.float .f32 0, .float .f32 0, .float .f32 0] 0) 57)) := hmk
    clear hmk
    have hrow := Lib.hid (Row.made w 0 F D U)
    go_enter Try.func17, Try.ntmps17
    go_wp2_with fail
    go_loopw [4] (fun i wr => i = .int .i64 0 ∧ Row wr w.heap.size 0 0 F D U ∧ Below w.heap.size w wr) (fun _ _ => 0)
    case atStart => exact ⟨rfl, hrow.out, (Below.refl _ _).alloc (Nat.le_refl _) _⟩
    case round =>
      obtain ⟨rfl, hs, hb⟩ := hrel
      go_wp2_with fail
      go_ret
      exact ⟨_, rfl, ⟨Nat.le_refl _, by omega, fun h => absurd h (by omega)⟩, hs, hb, Nat.le_refl _, hs.1⟩
  · obtain ⟨b, off, rfl, hlt, hcells⟩ := h.2.2 h0
    have H := Lib.hid h
    clear h
    go_enter Try.func17, Try.ntmps17
    go_wp2_with fail
    go_loopw [4] (fun i wr => ∃ k : Nat, k ≤ n ∧ i = .int .i64 k ∧ Row wr w.heap.size n k F D U ∧ Below w.heap.size w wr) (fun i _ => n - (intOf i).toNat)
    case atStart => exact ⟨0, Nat.zero_le _, rfl, Row.made w n F D U, (Below.refl _ _).alloc (Nat.le_refl _) _⟩
    case round =>
      obtain ⟨k, hk, rfl, hrow, hbel⟩ := hrel
      by_cases hkn : k < n
      · have hsrc := hcells k hkn
        obtain ⟨⟨s1, s2, s3⟩, _⟩ := hsrc
        have t1 := (hbel.cell (p := ⟨b, off + k * 3, none⟩) hlt).trans s1
        have t2 := (hbel.cell (p := ⟨b, off + k * 3 + 1, none⟩) hlt).trans s2
        have t3 := (hbel.cell (p := ⟨b, off + k * 3 + 2, none⟩) hlt).trans s3
        clear s1 s2 s3
        obtain ⟨x, y, z, g1, g2, g3⟩ := hrow.2.2.1 k hkn
        have hgl := hrow.1
        have hfz := hrow.2.1
        have HR := Lib.hid hrow
        have HB := Lib.hid hbel
        clear hrow hbel
        go_wp2_with fail
        refine (toRange (F k) (D k) (U k) _).mono ?_
        rintro e w1 ⟨rfl, b1⟩
        have f1 := (b1.frozen (p := ⟨w.heap.size, k * 3, none⟩) hgl).trans (hfz _)
        have f2 := (b1.frozen (p := ⟨w.heap.size, k * 3 + 1, none⟩) hgl).trans (hfz _)
        have f3 := (b1.frozen (p := ⟨w.heap.size, k * 3 + 2, none⟩) hgl).trans (hfz _)
        rw [← b1.cell (p := ⟨w.heap.size, _, none⟩) hgl] at g1 g2 g3
        have HB1 := Lib.hid b1
        clear b1 hfz t1 t2 t3
        go_wp2_with fail
        go_roundw
        case rel => exact ⟨k + 1, by omega, by go_num, HR.out.step HB1.out hkn, put3_below (HB.out.trans (HB1.out.mono HB.out.size)) (Nat.le_refl _)⟩
        case measure => simp [intOf]; omega
      · have : k = n := by omega
        subst this
        have HR := Lib.hid hrow
        have HB := Lib.hid hbel
        clear hrow hbel
        go_wp2_with fail
        go_ret
        have hlast := HR.out
        refine ⟨_, rfl, ⟨Nat.le_refl _, by omega, fun _ => ⟨_, _, rfl, hlast.1, fun j hj => ?_⟩⟩, hlast, HB.out, Nat.le_refl _, hlast.1⟩
        rw [Nat.zero_add]
        exact ⟨hlast.2.2.2 j hj, (hcells j hj).2⟩

end Go.Proofs.Ytjclldiaddoobaa.rng
