/- FormatInt in package spec, walked: it gives the numeral. -/
import Derived.Test.YtmpeolnnfblbkaaDoorTab
import Derived.Test.YtmpeolnnfblbkaaDoorOwnStep
import Derived.LoopTactic
import Derived.IntWalk
import Derived.RegionTactic
namespace Go.Proofs.YtmpeolnnfblbkaaDoor.fmt
open Go.RowKit base
set_option linter.unusedVariables false

/-- the figures of a number, none for 0 -/
def dd (u : Nat) : List UInt8 := if u = 0 then [] else Lib.decDigits u
theorem dd_zero : dd 0 = [] := rfl
theorem dd_pos {u : Nat} (h : u ≠ 0) : dd u = Lib.decDigits u := if_neg h
theorem dd_step {u : Nat} (h : u ≠ 0) : dd u = dd (u / 10) ++ [UInt8.ofNat (48 + u % 10)] := by
  rw [dd_pos h, Lib.decDigits]
  by_cases h1 : u < 10
  · rw [dif_pos h1, show u / 10 = 0 by omega, dd_zero, Nat.mod_eq_of_lt h1]; rfl
  · rw [dif_neg h1, dd_pos (by omega)]
theorem itoa_zero : Lib.itoa 0 = [48] := by decide +kernel
theorem itoa_pos {m : Nat} (h : m ≠ 0) : Lib.itoa (m : Int) = dd m := by rw [Lib.itoa_nonneg, dd_pos h]
theorem itoa_neg {m : Nat} (h : m ≠ 0) : Lib.itoa (-(m : Int)) = 45 :: dd m := by rw [Lib.itoa_neg m (by omega), dd_pos h]

theorem cat_one (x : UInt8) (l : List UInt8) : (⟨#[x]⟩ : ByteArray) ++ ⟨l.toArray⟩ = ⟨(x :: l).toArray⟩ := by
  apply ByteArray.ext
  rw [ByteArray.data_append]
  show #[x] ++ l.toArray = (x :: l).toArray
  simp
theorem figure (x : Int) (r : Nat) (hx : x = r) (h : r < 10) (w : World) : Calls Tryd.prog 25 #[.int .i64 x] w fun e w' => e = .returned (.int .u8 (48 + (r : Int))) ∧ w = w' := by
  subst hx
  go_enter Tryd.func25, Tryd.ntmps25
  go_wp2
  all_goals (first | (exfalso; omega) | (go_ret; refine ⟨?_, rfl⟩; rfl))
theorem one_str (W : World) (r : Nat) (h : r < 10) : (convert 32 9 (.slice (some ⟨W.heap.size, 0, none⟩) 1 1)).run Tryd.prog (W.alloc (.cells #[.int .u8 (48 + (r : Int))] 5)) = .ok (.string ⟨#[UInt8.ofNat (48 + r)]⟩) (W.alloc (.cells #[.int .u8 (48 + (r : Int))] 5)) := by
  have e : Lib.byteCells [UInt8.ofNat (48 + r)] = [.int .u8 (48 + (r : Int))] := by
    simp only [Lib.byteCells, List.map_cons, List.map_nil]
    rw [UInt8.toNat_ofNat', Nat.mod_eq_of_lt (show 48 + r < 256 by omega), show ((48 + r : Nat) : Int) = 48 + (r : Int) by omega]
  have := World.ownsRow_lit (base := W.heap.size) (e := 5) (size := 1) W #[.int .u8 (48 + (r : Int))] 1 (Nat.le_refl _) (by decide) rfl
  rw [show (#[Value.int .u8 (48 + (r : Int))]).toList = Lib.byteCells [UInt8.ofNat (48 + r)] by rw [e]] at this
  exact own_string (P := Tryd.prog) (src := 32) (dst := 9) this Tryd.underlying32 Tryd.underlying5 Tryd.underlying9

theorem dd_len {N : Nat} (h : N ≤ 9223372036854775808) : (dd N).length ≤ 20 := by
  unfold dd
  split
  · simp
  · rw [Lib.decDigits_length]; exact Lib.nDigits_le20 N (by omega)
def FmtE (n : Int) (w : World) (e : Ending) (w' : World) : Prop := e = .returned (.string ⟨(Lib.itoa n).toArray⟩) ∧ Below w.heap.size w w'

set_option maxHeartbeats 1000000 in
theorem spec_FormatInt (n : Int) (h0 : -9223372036854775808 ≤ n) (h1 : n ≤ 9223372036854775807) (w : World) : Calls Tryd.prog 9 #[.int .i64 n] w (FmtE n w) := by
  rcases Int.lt_trichotomy n 0 with hn | rfl | hn
  · obtain ⟨N, rfl⟩ : ∃ N : Nat, n = -(N : Int) := ⟨n.natAbs, by omega⟩
    have hR : Hid (Lib.itoa (-(N : Int)) = 45 :: dd N) := itoa_neg (by omega)
    have hN : 0 < N := by omega
    have hne0 : ((-(N : Int)) == 0) = false := by simp; omega
    have hN2 : N ≤ 9223372036854775808 := by omega
    go_enter Tryd.func9, Tryd.ntmps9
    clear h0 h1
    go_wp2_with fail
    go_loopw [0, 4] (fun n s wr => ∃ (m : Nat) (l : List UInt8), n = .int .i64 (-(m : Int)) ∧ m ≤ N ∧ s = .string ⟨l.toArray⟩ ∧ dd m ++ l = dd N ∧ Below w.heap.size w wr) (fun n _ _ => (-(intOf n)).toNat)
    case atStart => exact ⟨N, [], rfl, Nat.le_refl _, rfl, by simp, Below.refl _ _⟩
    case round =>
      obtain ⟨m, l, rfl, hm, rfl, hdd, hbel⟩ := hrel
      have HB := Lib.hid hbel
      have HD := Lib.hid hdd
      clear hbel hdd
      by_cases hz : m = 0
      · subst hz
        have hD : Hid (dd N = l) := by have := HD.out; rw [dd_zero, List.nil_append] at this; exact this.symm
        have hll : l.length ≤ 20 := by have := dd_len hN2; rw [hD.out] at this; exact this
        have hne : ((-((0 : Nat) : Int)) == 0) = true := rfl
        go_wp2_with fail
        go_ret
        refine ⟨?_, HB.out⟩
        rw [hR.out, hD.out, ← cat_one]
        rfl
      · have hne : ((-(m : Int)) == 0) = false := by simp; omega
        have HS := Lib.hid (dd_step hz)
        have d1 : (-(m : Int)).tmod 10 = -((m % 10 : Nat) : Int) := by rw [Int.neg_tmod]; rw [Int.tmod_eq_emod_of_nonneg (by omega)]; omega
        have d2 : IntKind.i64.wrap (-((m % 10 : Nat) : Int)) = -((m % 10 : Nat) : Int) := IntWalk.i64_in _ (by omega)
        have d3 : IntKind.i64.wrap ((m % 10 : Nat) : Int) = ((m % 10 : Nat) : Int) := IntWalk.i64_in _ (by omega)
        have d4 : (-(m : Int)).tdiv 10 = -((m / 10 : Nat) : Int) := by rw [Int.neg_tdiv]; rw [Int.tdiv_eq_ediv_of_nonneg (by omega)]; omega
        have d5 : IntKind.i64.wrap (-((m / 10 : Nat) : Int)) = -((m / 10 : Nat) : Int) := IntWalk.i64_in _ (by omega)
        have hr : m % 10 < 10 := Nat.mod_lt _ (by omega)
        obtain ⟨r, hre⟩ : ∃ r, m % 10 = r := ⟨_, rfl⟩
        rw [hre] at d1 d2 d3 hr
        have hll : l.length ≤ 20 := by have := dd_len (show N ≤ 9223372036854775808 by omega); rw [← HD.out, List.length_append] at this; omega
        have hx : Hid (dd (m / 10) ++ UInt8.ofNat (48 + r) :: l = dd N) := by
          show _ = _
          have := HD.out
          rw [HS.out, hre, List.append_assoc] at this
          exact this
        have q1 := one_str wr r hr
        have e48 : UInt8.ofNat (48 + r) = 48 + UInt8.ofNat r := by simp
        rw [e48] at hx q1
        have hll2 : ¬ 9223372036854775807 < 1 + l.length := by omega
        have hm10 : m / 10 ≤ N := by omega
        have hms : m / 10 < m := by omega
        clear e48
        have hlt : ¬ (-(r : Int)) < 0 ∨ (-(r : Int)) < 0 := by omega
        clear hre
        rcases hlt with hlt | hlt
        all_goals
          (go_wp2_with fail
           refine (figure _ r (by omega) hr _).mono ?_
           rintro e w1 ⟨rfl, rfl⟩
           go_wp2_with fail
           go_roundw
           case rel =>
             exact ⟨m / 10, (48 + UInt8.ofNat r) :: l, by go_num, hm10, by rw [cat_one], hx.out, HB.out.alloc HB.out.size _⟩
           case measure => simp [intOf]; omega)
  · go_enter Tryd.func9, Tryd.ntmps9
    go_wp2_with fail
    go_ret
    exact ⟨by rw [itoa_zero]; rfl, Below.refl _ _⟩
  · obtain ⟨N, rfl⟩ : ∃ N : Nat, n = (N : Int) := ⟨n.natAbs, by omega⟩
    have hR : Hid (Lib.itoa (N : Int) = dd N) := itoa_pos (by omega)
    have hN : 0 < N := by omega
    have hne0 : ((N : Int) == 0) = false := by simp; omega
    have hN2 : N ≤ 9223372036854775807 := by omega
    go_enter Tryd.func9, Tryd.ntmps9
    clear h0 h1
    go_wp2_with fail
    go_loopw [0, 4] (fun n s wr => ∃ (m : Nat) (l : List UInt8), n = .int .i64 (m : Int) ∧ m ≤ N ∧ s = .string ⟨l.toArray⟩ ∧ dd m ++ l = dd N ∧ Below w.heap.size w wr) (fun n _ _ => (intOf n).toNat)
    case atStart => exact ⟨N, [], rfl, Nat.le_refl _, rfl, by simp, Below.refl _ _⟩
    case round =>
      obtain ⟨m, l, rfl, hm, rfl, hdd, hbel⟩ := hrel
      have HB := Lib.hid hbel
      have HD := Lib.hid hdd
      clear hbel hdd
      by_cases hz : m = 0
      · subst hz
        have hD : Hid (dd N = l) := by have := HD.out; rw [dd_zero, List.nil_append] at this; exact this.symm
        have hll : l.length ≤ 20 := by have := dd_len (show N ≤ 9223372036854775808 by omega); rw [hD.out] at this; exact this
        have hne : (((0 : Nat) : Int) == 0) = true := rfl
        go_wp2_with fail
        go_ret
        refine ⟨?_, HB.out⟩
        rw [hR.out, hD.out]
        rfl
      · have hne : ((m : Int) == 0) = false := by simp; omega
        have HS := Lib.hid (dd_step hz)
        have d1 : (m : Int).tmod 10 = ((m % 10 : Nat) : Int) := by rw [Int.tmod_eq_emod_of_nonneg (by omega)]; omega
        have d3 : IntKind.i64.wrap ((m % 10 : Nat) : Int) = ((m % 10 : Nat) : Int) := IntWalk.i64_in _ (by omega)
        have d4 : (m : Int).tdiv 10 = ((m / 10 : Nat) : Int) := by rw [Int.tdiv_eq_ediv_of_nonneg (by omega)]; omega
        have d5 : IntKind.i64.wrap ((m / 10 : Nat) : Int) = ((m / 10 : Nat) : Int) := IntWalk.i64_in _ (by omega)
        have hr : m % 10 < 10 := Nat.mod_lt _ (by omega)
        obtain ⟨r, hre⟩ : ∃ r, m % 10 = r := ⟨_, rfl⟩
        rw [hre] at d1 d3 hr
        have hll : l.length ≤ 20 := by have := dd_len (show N ≤ 9223372036854775808 by omega); rw [← HD.out, List.length_append] at this; omega
        have hx : Hid (dd (m / 10) ++ UInt8.ofNat (48 + r) :: l = dd N) := by
          show _ = _
          have := HD.out
          rw [HS.out, hre, List.append_assoc] at this
          exact this
        have q1 := one_str wr r hr
        have e48 : UInt8.ofNat (48 + r) = 48 + UInt8.ofNat r := by simp
        rw [e48] at hx q1
        have hll2 : ¬ 9223372036854775807 < 1 + l.length := by omega
        have hm10 : m / 10 ≤ N := by omega
        have hms : m / 10 < m := by omega
        clear e48
        have hlt : ¬ (r : Int) < 0 := by omega
        clear hre
        go_wp2_with fail
        refine (figure _ r (by omega) hr _).mono ?_
        rintro e w1 ⟨rfl, rfl⟩
        go_wp2_with fail
        go_roundw
        case rel => exact ⟨m / 10, (48 + UInt8.ofNat r) :: l, by go_num, hm10, by rw [cat_one], hx.out, HB.out.alloc HB.out.size _⟩
        case measure => simp [intOf]; omega
end Go.Proofs.YtmpeolnnfblbkaaDoor.fmt
