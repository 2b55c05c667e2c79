/- Contracts of the draws of singles: each gives some single, and turns nothing but the cursor's own block. -/
import Derived.Test.YtpbklllmplimaaaDoorDraw
import Derived.Test.YtpbklllmplimaaaDoorDrawCells
import Derived.Test.YtpbklllmplimaaaDoorSignedS
import Derived.Test.YtpbklllmplimaaaDoorIn
namespace Go.Proofs.YtpbklllmplimaaaDoor.draw
open Go.RowKit base Fl same
set_option linter.unusedVariables false

/-- some single and a bool, after some draws -/
def SingleB (w : World) (e : Ending) (w' : World) : Prop := ∃ (r : Nat) (b : Bool) (n : Nat), e = .returned (.tuple #[.float .f32 r, .bool b]) ∧ r < 2 ^ 32 ∧ w' = w.drewN n


set_option maxHeartbeats 1000000 in
set_option maxRecDepth 100000 in
theorem makeSingle_any (s : ByteArray) (hs : s.toList = [43] ∨ s.toList = [45]) (m e : Int) (m0 : 0 ≤ m) (m1 : m ≤ 16777215) (e0 : -149 ≤ e) (e1 : e ≤ 127) (w : World) :
    Calls Tryd.prog 21 #[.string s, .int .i64 m, .int .i64 e] w (SingleB w) := by
  have d1 : decide (0 ≤ m ∧ m ≤ 16777215) = true := by simp; omega
  have d2 : decide (-149 ≤ e ∧ e ≤ 127) = true := by simp; omega
  have hw : floatOfInt .f64 m < 2 ^ 64 := lt_of_wf (floatOfInt_wf .f64 m)
  have HW := Lib.hid hw
  clear hw
  have h43 : ∃ b, (s.toList == [43]) = b ∧ (b = false → (s.toList == [45]) = true) := by
    rcases hs with h | h <;> rw [h]
    · exact ⟨true, rfl, fun h => by cases h⟩
    · exact ⟨false, rfl, fun _ => rfl⟩
  obtain ⟨b, h43, h45⟩ := h43
  clear hs
  cases b with
  | true =>
    clear h45
    go_enter Tryd.func21, Tryd.ntmps21
    go_wp2_with (go_at_call 42; refine (inR.l01In_any _ _ _ _).mono ?_; rintro e' w' ⟨rfl, rfl⟩)
    clear d1 d2
    go_loopw [8, 9] (fun a i wr => ∃ (k x n : Nat), a = .float .f64 x ∧ x < 2 ^ 64 ∧ i = .int .i64 k ∧ (k : Int) ≤ 127 ∧ wr = w.drewN n) (fun _ i _ => 128 - (intOf i).toNat)
    case atStart => exact ⟨0, _, 0, rfl, HW.out, rfl, by omega, rfl⟩
    case round =>
      obtain ⟨k, x, n, rfl, hx, rfl, hk, rfl⟩ := hrel
      by_cases hke : (k : Int) < e
      · obtain ⟨z, n', hrun, hz⟩ := arith_at Tryd.prog (op := .mul) (by simp) .f64 x 4611686018427387904 26 w n
        have HZ := Lib.hid hz
        clear hz hx
        go_wp2
        go_roundw
        case rel => exact ⟨k + 1, z, n', rfl, HZ.out, by go_num, by omega, rfl⟩
        case measure => simp [intOf]; omega
      · have HX := Lib.hid hx
        clear hx
        go_wp2
        clear hke
        go_loopw [8, 10] (fun a i wr => ∃ (k x n : Nat), a = .float .f64 x ∧ x < 2 ^ 64 ∧ i = .int .i64 (-(k : Int)) ∧ (k : Int) ≤ 149 ∧ wr = w.drewN n) (fun _ i _ => (150 + intOf i).toNat)
        case atStart => exact ⟨0, x, n, rfl, HX.out, rfl, by omega, rfl⟩
        case round =>
          obtain ⟨k2, x2, n2, rfl, hx2, rfl, hk2, rfl⟩ := hrel
          by_cases hke2 : e < -(k2 : Int)
          · obtain ⟨z, n', hrun, hz⟩ := arith_at Tryd.prog (op := .quo) (by simp) .f64 x2 4611686018427387904 26 w n2
            have HZ := Lib.hid hz
            clear hz hx2
            go_wp2
            go_roundw
            case rel => exact ⟨k2 + 1, z, n', rfl, HZ.out, by congr 1; omega, by omega, rfl⟩
            case measure => simp [intOf]; omega
          · obtain ⟨y, n3, hrun3, hy⟩ := conv_at Tryd.prog .f64 .f32 x2 hx2 26 22 (by kernel_rfl) Tryd.underlying22 w n2
            obtain ⟨u, n4, hrun4, hu⟩ := conv_at Tryd.prog .f32 .f64 y hy 22 26 (by kernel_rfl) Tryd.underlying26 w n3
            have HY := Lib.hid hy
            clear hy hu hx2
            cases ho : (FloatKind.f64.format.order u x2 != some .eq) with
            | true =>
              go_wp2
              go_ret2
              exact ⟨_, _, n4, rfl, by omega, rfl⟩
            | false =>
              go_wp2_with (go_at_call 19; refine (spec_Signed _ _ _).mono ?_; rintro e' w' ⟨rfl, rfl⟩)
              go_ret2
              exact ⟨_, _, n4, rfl, sgnV_lt s HY.out, rfl⟩
  | false =>
    have h45 := h45 rfl
    go_enter Tryd.func21, Tryd.ntmps21
    go_wp2_with (go_at_call 42; refine (inR.l01In_any _ _ _ _).mono ?_; rintro e' w' ⟨rfl, rfl⟩)
    clear d1 d2
    go_loopw [8, 9] (fun a i wr => ∃ (k x n : Nat), a = .float .f64 x ∧ x < 2 ^ 64 ∧ i = .int .i64 k ∧ (k : Int) ≤ 127 ∧ wr = w.drewN n) (fun _ i _ => 128 - (intOf i).toNat)
    case atStart => exact ⟨0, _, 0, rfl, HW.out, rfl, by omega, rfl⟩
    case round =>
      obtain ⟨k, x, n, rfl, hx, rfl, hk, rfl⟩ := hrel
      by_cases hke : (k : Int) < e
      · obtain ⟨z, n', hrun, hz⟩ := arith_at Tryd.prog (op := .mul) (by simp) .f64 x 4611686018427387904 26 w n
        have HZ := Lib.hid hz
        clear hz hx
        go_wp2
        go_roundw
        case rel => exact ⟨k + 1, z, n', rfl, HZ.out, by go_num, by omega, rfl⟩
        case measure => simp [intOf]; omega
      · have HX := Lib.hid hx
        clear hx
        go_wp2
        clear hke
        go_loopw [8, 10] (fun a i wr => ∃ (k x n : Nat), a = .float .f64 x ∧ x < 2 ^ 64 ∧ i = .int .i64 (-(k : Int)) ∧ (k : Int) ≤ 149 ∧ wr = w.drewN n) (fun _ i _ => (150 + intOf i).toNat)
        case atStart => exact ⟨0, x, n, rfl, HX.out, rfl, by omega, rfl⟩
        case round =>
          obtain ⟨k2, x2, n2, rfl, hx2, rfl, hk2, rfl⟩ := hrel
          by_cases hke2 : e < -(k2 : Int)
          · obtain ⟨z, n', hrun, hz⟩ := arith_at Tryd.prog (op := .quo) (by simp) .f64 x2 4611686018427387904 26 w n2
            have HZ := Lib.hid hz
            clear hz hx2
            go_wp2
            go_roundw
            case rel => exact ⟨k2 + 1, z, n', rfl, HZ.out, by congr 1; omega, by omega, rfl⟩
            case measure => simp [intOf]; omega
          · obtain ⟨y, n3, hrun3, hy⟩ := conv_at Tryd.prog .f64 .f32 x2 hx2 26 22 (by kernel_rfl) Tryd.underlying22 w n2
            obtain ⟨u, n4, hrun4, hu⟩ := conv_at Tryd.prog .f32 .f64 y hy 22 26 (by kernel_rfl) Tryd.underlying26 w n3
            have HY := Lib.hid hy
            clear hy hu hx2
            cases ho : (FloatKind.f64.format.order u x2 != some .eq) with
            | true =>
              go_wp2
              go_ret2
              exact ⟨_, _, n4, rfl, by omega, rfl⟩
            | false =>
              go_wp2_with (go_at_call 19; refine (spec_Signed _ _ _).mono ?_; rintro e' w' ⟨rfl, rfl⟩)
              go_ret2
              exact ⟨_, _, n4, rfl, sgnV_lt s HY.out, rfl⟩
end Go.Proofs.YtpbklllmplimaaaDoor.draw
