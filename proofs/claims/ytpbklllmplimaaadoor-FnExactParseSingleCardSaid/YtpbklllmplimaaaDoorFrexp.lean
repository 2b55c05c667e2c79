/- math.Frexp at a normal number of no sign. -/
import Derived.Test.YtpbklllmplimaaaDoorLdexp
namespace Go.Proofs.YtpbklllmplimaaaDoor.same
open Go.RowKit Fl Ieee
set_option linter.unusedVariables false

theorem and_u64_fin : ∀ x : Fin 2048, Go.bits .and .u64 (x.val : Int) 2047 = (x.val : Int) := by decide +kernel
/-- the fraction's word -/
def frW (z : Nat) : Nat := z % 4503599627370496 + 4602678819172646912

set_option maxRecDepth 100000 in
set_option maxHeartbeats 1000000 in
theorem frexp_w (z : Nat) (l1 : 4503599627370496 ≤ z) (l2 : z < D.infRung) (w : World) :
    Calls Tryd.prog 63 #[.float .f64 z] w fun en w' => en = .returned (.tuple #[.float .f64 (frW z), .int .i64 ((z / 4503599627370496 : Nat) - 1022)]) ∧ w = w' := by
  have hI : D.infRung = 9218868437227405312 := D_I
  have hnum := (gnum l2).1
  have hk : D.order z 0 = some .gt := ordGt (k := .f64) hnum (num_zero _) (by
    rw [show key FloatKind.f64.format z = (z : Int) from (gnum l2).2.2, key_zero]; omega)
  have HI : Hid ((rg D z == D.infRung) = false) := by show _ = _; rw [(gpos l2).1]; simp; omega
  have HN : Hid ((!num D z) = false) := by show _ = _; rw [hnum]; rfl
  have HZI := Lib.hid l2
  have hb := run_float64bits z
  have h64 : z < 9218868437227405312 := by omega
  obtain ⟨c, hcc⟩ : ∃ c : Nat, z / 4503599627370496 = c := ⟨_, rfl⟩
  obtain ⟨y, hy⟩ : ∃ y : Nat, frW z = y := ⟨_, rfl⟩
  rw [hcc, hy]
  have HC := Lib.hid hcc
  have HY := Lib.hid hy
  clear hnum l2 hI hcc hy
  go_enter Tryd.func63, Tryd.ntmps63
  go_wp2_with fail
  refine (isInf z (by omega) _).mono ?_
  rintro en w1 ⟨rfl, rfl⟩
  rw [HI.out]
  go_wp2_with fail
  refine (isNaN z _).mono ?_
  rintro en w1 ⟨rfl, rfl⟩
  rw [HN.out]
  go_wp2_with fail
  refine (normalize z l1 HZI.out _).mono ?_
  rintro en w1 ⟨rfl, rfl⟩
  have hc0 := HC.out
  have hc : (z : Int) / 4503599627370496 = (c : Int) := by omega
  have c1 : c ≤ 2046 := by omega
  have hand : Go.bits .and .u64 (c : Int) 2047 = (c : Int) := and_u64_fin ⟨c, by omega⟩
  obtain ⟨f, hf, hf2⟩ : ∃ f : Nat, Go.bits .andNot .u64 (z : Int) 9218868437227405312 = (f : Int) ∧ f = z % 4503599627370496 := ⟨_, andNot_exp z (by omega), rfl⟩
  have hy := HY.out
  have hor : Go.bits .or .u64 (f : Int) 4602678819172646912 = (y : Int) := by
    have := or_apart f 1022 (by omega) (by omega)
    rw [show ((1022 : Nat) : Int) * 4503599627370496 = 4602678819172646912 by omega] at this
    rw [this, ← hy, hf2]; unfold frW; omega
  have hfb : ∀ W : World, (callFunc 43 #[.int .u64 (y : Int)]).run Tryd.prog W = .ok (.value (.float .f64 y)) W := fun W => run_float64frombits (y : Int) W
  clear hf2 hy hc0
  go_wp2_with fail
  go_ret2
  refine ⟨?_, rfl⟩
  show Ending.returned (.tuple #[.float .f64 y, .int .i64 ((c : Int) - 1023 + 1)]) = _
  rw [show (c : Int) - 1023 + 1 = (c : Int) - 1022 by omega]
theorem frexp_any (z : Nat) (l1 : 4503599627370496 ≤ z) (l2 : z < D.infRung) (w : World) :
    Calls Tryd.prog 51 #[.float .f64 z] w fun en w' => en = .returned (.tuple #[.float .f64 (frW z), .int .i64 ((z / 4503599627370496 : Nat) - 1022)]) ∧ w = w' := by
  go_enter Tryd.func51, Tryd.ntmps51
  go_wp2_with fail
  refine (frexp_w z l1 l2 _).mono ?_
  rintro en w1 ⟨rfl, rfl⟩
  go_wp2_with fail
  go_ret2
  exact ⟨rfl, rfl⟩
end Go.Proofs.YtpbklllmplimaaaDoor.same
