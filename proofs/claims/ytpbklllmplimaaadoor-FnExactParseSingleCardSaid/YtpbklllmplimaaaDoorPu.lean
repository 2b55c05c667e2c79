/- ParseUint in both packages, walked: both take exactly the numerals up to 10^9. -/
import Derived.Test.YtpbklllmplimaaaDoorFmt
import Derived.Test.YtpbklllmplimaaaDoorDecL
import Derived.Lib.CutLaws
namespace Go.Proofs.YtpbklllmplimaaaDoor.pu
open Go.RowKit base fmt dec
set_option linter.unusedVariables false

/-- is it taken; which number -/
def puOk (l : List UInt8) : Bool := decide (l.length ≤ 10) && l.all isDig && decide (dv l ≤ 1000000000) && (Lib.decDigits (dv l) == l)
def puV (l : List UInt8) : Nat := if puOk l then dv l else 0
def PuE (s : ByteArray) (w : World) (e : Ending) (w' : World) : Prop := e = .returned (.tuple #[.int .i64 (puV s.data.toList : Nat), .bool (puOk s.data.toList)]) ∧ Below w.heap.size w w'

theorem pu_no {l : List UInt8} (h : puOk l = false) : puOk l = false ∧ puV l = 0 := ⟨h, by unfold puV; rw [h]; rfl⟩
theorem pu_yes {l : List UInt8} (h : puOk l = true) : puOk l = true ∧ puV l = dv l := ⟨h, by unfold puV; rw [h]; rfl⟩
theorem no_long {l : List UInt8} (h : 10 < l.length) : puOk l = false := by unfold puOk; rw [decide_eq_false (by omega)]; rfl
theorem no_dig {l : List UInt8} {k : Nat} {b : UInt8} (h : l[k]? = some b) (hb : isDig b = false) : puOk l = false := by
  unfold puOk
  have : l.all isDig = false := by
    cases ha : l.all isDig with
    | false => rfl
    | true => have := List.all_eq_true.1 ha _ (List.mem_of_getElem? h); rw [hb] at this; cases this
  rw [this]; simp
theorem no_big {l : List UInt8} (h : 1000000000 < dv l) : puOk l = false := by unfold puOk; rw [decide_eq_false (show ¬ dv l ≤ 1000000000 by omega)]; simp
theorem no_ne {l : List UInt8} (h : Lib.decDigits (dv l) ≠ l) : puOk l = false := by
  unfold puOk
  rw [show (Lib.decDigits (dv l) == l) = false by simpa using h]; simp
theorem all_good {l : List UInt8} (h1 : l.length ≤ 10) (h2 : l.all isDig = true) (h3 : dv l ≤ 1000000000) (h4 : Lib.decDigits (dv l) = l) : puOk l = true := by
  unfold puOk; rw [decide_eq_true h1, h2, decide_eq_true h3, h4]; simp
theorem no_nil : puOk [] = false := no_ne (by decide +kernel)
theorem dv10 {l : List UInt8} (h : l.all isDig = true) (hl : l.length ≤ 10) : dv l < 10000000000 := by
  have h1 := dv_lt l h
  have h2 : 10 ^ l.length ≤ 10 ^ 10 := Nat.pow_le_pow_right (by omega) hl
  omega
theorem dig_lo {b : UInt8} (h : isDig b = false) : b.toNat < 48 ∨ 57 < b.toNat := by
  have := mt (isDig_iff b).2 (by rw [h]; simp); omega
theorem take_at (s : ByteArray) (k : Nat) (h : k < s.size) : s.data.toList.take (k + 1) = s.data.toList.take k ++ [s[k]] := by
  rw [List.take_succ_eq_append_getElem (by simpa using h)]; rfl
theorem at_get (s : ByteArray) (k : Nat) (h : k < s.size) : s.data.toList[k]? = some s[k] := by
  rw [List.getElem?_eq_getElem (by simpa using h)]; rfl
theorem take_all (s : ByteArray) : s.data.toList.take s.size = s.data.toList := List.take_of_length_le (by show s.data.size ≤ _; exact Nat.le_refl _)
theorem size_len (s : ByteArray) : s.data.toList.length = s.size := by show _ = s.data.size; simp

set_option maxHeartbeats 1000000 in
theorem spec_ParseUint (s : ByteArray) (hm : s.size ≤ 9223372036854775807) (w : World) : Calls Tryd.prog 20 #[.string s] w (PuE s w) := by
  by_cases hs : 10 < s.size
  · have HR := Lib.hid (pu_no (no_long (l := s.data.toList) (by rw [size_len]; exact hs)))
    go_enter Tryd.func20, Tryd.ntmps20
    go_wp2_with fail
    go_ret2
    exact ⟨by (rw [HR.out.1, HR.out.2] <;> rfl), Below.refl _ _⟩
  have hs10 : s.size ≤ 10 := by omega
  clear hs hm
  go_enter Tryd.func20, Tryd.ntmps20
  go_wp2_with fail
  go_loop [4, 5] (fun n i => ∃ k : Nat, k ≤ s.size ∧ i = .int .i64 k ∧ (s.data.toList.take k).all isDig = true ∧ n = .int .i64 (dv (s.data.toList.take k) : Nat)) (fun _ i => s.size - (intOf i).toNat)
  case atStart => exact ⟨0, Nat.zero_le _, rfl, by simp, by simp [dv]⟩
  case round =>
    obtain ⟨k, hk, rfl, hall, rfl⟩ := hrel
    have HA := Lib.hid hall
    have hD := dv10 hall (by rw [List.length_take, size_len]; omega)
    clear hall
    obtain ⟨D, hDe⟩ : ∃ D, dv (s.data.toList.take k) = D := ⟨_, rfl⟩
    rw [hDe] at hD
    have HD := Lib.hid hDe
    rw [hDe]
    clear hDe
    by_cases hlt : k < s.size
    · have hb := s[k].toNat_lt
      cases hd : isDig s[k] with
      | false =>
        have HR := Lib.hid (pu_no (no_dig (at_get s k hlt) hd))
        have hlo := dig_lo hd
        clear hd hD
        rcases hlo with hlo | hlo
        all_goals
          (go_wp2_with fail
           go_ret2
           exact ⟨by (rw [HR.out.1, HR.out.2] <;> rfl), Below.refl _ _⟩)
      | true =>
        obtain ⟨b1, b2⟩ := (isDig_iff _).1 hd
        have HA1 : Hid ((s.data.toList.take (k + 1)).all isDig = true) := by show _ = _; rw [take_at s k hlt]; exact all_snoc HA.out hd
        have HD1 : Hid (((dv (s.data.toList.take (k + 1)) : Nat) : Int) = 10 * (D : Int) + (s[k].toNat : Int) - 48) := by show _ = _; rw [take_at s k hlt, dv_snoc, HD.out]; omega
        clear hd
        go_wp2_with fail
        go_round
        case rel => exact ⟨k + 1, by omega, by go_num, HA1.out, by rw [HD1.out]⟩
        case measure => simp [intOf]; omega
    · obtain rfl : k = s.size := by omega
      rw [take_all] at HA HD
      by_cases hbig : 1000000000 < D
      · have HR := Lib.hid (pu_no (no_big (l := s.data.toList) (by rw [HD.out]; exact hbig)))
        clear hD
        go_wp2_with fail
        go_ret2
        exact ⟨by (rw [HR.out.1, HR.out.2] <;> rfl), Below.refl _ _⟩
      · clear hD
        go_wp2_with fail
        refine (spec_FormatInt D (by omega) (by omega) _).mono ?_
        rintro en w1 ⟨rfl, b1⟩
        have HB := Lib.hid b1
        clear b1
        rw [Lib.itoa_nonneg]
        cases hq : (Lib.decDigits D == s.toList) with
        | true =>
          have he : Lib.decDigits D = s.data.toList := by rw [← Lib.toList_data]; simpa using hq
          have HR := Lib.hid (pu_yes (all_good (l := s.data.toList) (by rw [size_len]; exact hs10) HA.out (by rw [HD.out]; omega) (by rw [HD.out]; exact he)))
          clear he
          go_wp2_with fail
          go_ret2
          exact ⟨by (rw [HR.out.1, HR.out.2, HD.out] <;> rfl), HB.out⟩
        | false =>
          have he : Lib.decDigits D ≠ s.data.toList := by rw [← Lib.toList_data]; simpa using hq
          have HR := Lib.hid (pu_no (no_ne (l := s.data.toList) (by rw [HD.out]; exact he)))
          clear he
          go_wp2_with fail
          go_ret2
          exact ⟨by (rw [HR.out.1, HR.out.2] <;> rfl), HB.out⟩
set_option maxHeartbeats 1000000 in
theorem impl_ParseUint (s : ByteArray) (hm : s.size ≤ 9223372036854775807) (w : World) (ht : tab.Tab w) : Calls Tryd.prog 26 #[.string s] w (PuE s w) := by
  have HT := Lib.hid ht
  clear ht
  by_cases hs0 : s.size = 0
  · have HR := Lib.hid (pu_no (l := s.data.toList) (by rw [show s.data.toList = [] from List.eq_nil_of_length_eq_zero (by rw [size_len]; exact hs0)]; exact no_nil))
    go_enter Tryd.func26, Tryd.ntmps26
    go_wp2_with fail
    go_ret2
    exact ⟨by (rw [HR.out.1, HR.out.2] <;> rfl), Below.refl _ _⟩
  have hs1 : ((s.size : Int) == 0) = false := beq_eq_false_iff_ne.2 (by omega)
  clear hs0
  by_cases hs : 10 < s.size
  · have HR := Lib.hid (pu_no (no_long (l := s.data.toList) (by rw [size_len]; exact hs)))
    go_enter Tryd.func26, Tryd.ntmps26
    go_wp2_with fail
    go_ret2
    exact ⟨by (rw [HR.out.1, HR.out.2] <;> rfl), Below.refl _ _⟩
  have hs10 : s.size ≤ 10 := by omega
  clear hs hm
  go_enter Tryd.func26, Tryd.ntmps26
  go_wp2_with fail
  go_loop [4, 5] (fun n i => ∃ k : Nat, k ≤ s.size ∧ i = .int .i64 k ∧ (s.data.toList.take k).all isDig = true ∧ n = .int .i64 (dv (s.data.toList.take k) : Nat)) (fun _ i => s.size - (intOf i).toNat)
  case atStart => exact ⟨0, Nat.zero_le _, rfl, by simp, by simp [dv]⟩
  case round =>
    obtain ⟨k, hk, rfl, hall, rfl⟩ := hrel
    have HA := Lib.hid hall
    have hD := dv10 hall (by rw [List.length_take, size_len]; omega)
    clear hall
    obtain ⟨D, hDe⟩ : ∃ D, dv (s.data.toList.take k) = D := ⟨_, rfl⟩
    rw [hDe] at hD
    have HD := Lib.hid hDe
    rw [hDe]
    clear hDe
    by_cases hlt : k < s.size
    · have hb := s[k].toNat_lt
      cases hd : isDig s[k] with
      | false =>
        have HR := Lib.hid (pu_no (no_dig (at_get s k hlt) hd))
        have hlo := dig_lo hd
        clear hd hD
        rcases hlo with hlo | hlo
        all_goals
          (go_wp2_with fail
           go_ret2
           exact ⟨by (rw [HR.out.1, HR.out.2] <;> rfl), Below.refl _ _⟩)
      | true =>
        obtain ⟨b1, b2⟩ := (isDig_iff _).1 hd
        have HA1 : Hid ((s.data.toList.take (k + 1)).all isDig = true) := by show _ = _; rw [take_at s k hlt]; exact all_snoc HA.out hd
        have HD1 : Hid (((dv (s.data.toList.take (k + 1)) : Nat) : Int) = 10 * (D : Int) + (s[k].toNat : Int) - 48) := by show _ = _; rw [take_at s k hlt, dv_snoc, HD.out]; omega
        clear hd
        go_wp2_with fail
        go_round
        case rel => exact ⟨k + 1, by omega, by go_num, HA1.out, by rw [HD1.out]; refine congrArg (Value.int IntKind.i64) ?_; omega⟩
        case measure => simp [intOf]; omega
    · obtain rfl : k = s.size := by omega
      rw [take_all] at HA HD
      by_cases hbig : 1000000000 < D
      · have HR := Lib.hid (pu_no (no_big (l := s.data.toList) (by rw [HD.out]; exact hbig)))
        clear hD
        go_wp2_with fail
        go_ret2
        exact ⟨by (rw [HR.out.1, HR.out.2] <;> rfl), Below.refl _ _⟩
      · clear hD
        go_wp2_with fail
        refine (tab.formatInt D (by omega) (by omega) _ HT.out).mono ?_
        rintro en w1 ⟨rfl, b1, _⟩
        have HB := Lib.hid b1
        clear b1
        rw [Lib.itoa_nonneg]
        cases hq : (Lib.decDigits D == s.toList) with
        | true =>
          have he : Lib.decDigits D = s.data.toList := by rw [← Lib.toList_data]; simpa using hq
          have HR := Lib.hid (pu_yes (all_good (l := s.data.toList) (by rw [size_len]; exact hs10) HA.out (by rw [HD.out]; omega) (by rw [HD.out]; exact he)))
          clear he
          go_wp2_with fail
          go_ret2
          exact ⟨by (rw [HR.out.1, HR.out.2, HD.out] <;> rfl), HB.out⟩
        | false =>
          have he : Lib.decDigits D ≠ s.data.toList := by rw [← Lib.toList_data]; simpa using hq
          have HR := Lib.hid (pu_no (no_ne (l := s.data.toList) (by rw [HD.out]; exact he)))
          clear he
          go_wp2_with fail
          go_ret2
          exact ⟨by (rw [HR.out.1, HR.out.2] <;> rfl), HB.out⟩
end Go.Proofs.YtpbklllmplimaaaDoor.pu
