/- EncodeHex in package spec, walked. -/
import Derived.Test.YtmpeolnnfblbkaaHexF
import Derived.Lib.UnsafeStr
import Derived.Laws.IdiomStrings
import Derived.Laws.OwnMore
import Derived.Laws.AppendOwn
import Derived.OwnWalk
import Derived.LoopTactic
import Derived.Test.YtmpeolnnfblbkaaOwnStep
import Derived.RegionTactic

import Derived.IntWalk
namespace Go.Proofs.Ytmpeolnnfblbkaa.hex
open Go.RowKit base
set_option linter.unusedVariables false

def encB (s : ByteArray) : Bool := decide (s.size ≤ 20000)
def encL (s : ByteArray) : List UInt8 := if s.size ≤ 20000 then enc s.data.toList else []
/-- what EncodeHex tells -/
def EncE (s : ByteArray) (w : World) (e : Ending) (w' : World) : Prop := e = .returned (.tuple #[.string ⟨(encL s).toArray⟩, .bool (encB s)]) ∧ Below w.heap.size w w'

theorem take_snoc (s : ByteArray) (k : Nat) (h : k < s.size) : s.data.toList.take (k + 1) = s.data.toList.take k ++ [s[k]] := by
  rw [List.take_succ_eq_append_getElem (by simpa using h)]; rfl

theorem enc_step (s : ByteArray) (k : Nat) (h : k < s.size) : Lib.byteCells (enc (s.data.toList.take (k + 1))) = Lib.byteCells (enc (s.data.toList.take k)) ++ [.int .u8 (figI ((s[k].toNat : Int) / 16)), .int .u8 (figI ((s[k].toNat : Int) % 16))] := by
  have hb := s[k].toNat_lt
  rw [take_snoc s k h, enc_snoc, Lib.byteCells_append, figI_of (n := s[k].toNat / 16) (by omega), figI_of (n := s[k].toNat % 16) (by omega)]
  simp only [Lib.byteCells, List.map_cons, List.map_nil]
  rw [figB_toNat (by omega), figB_toNat (by omega)]

set_option maxHeartbeats 1000000 in
theorem spec_EncodeHex (s : ByteArray) (w : World) : Calls Try.prog 5 #[.string s] w (EncE s w) := by
  obtain ⟨i0, hi, hz0, hz1, hz2⟩ := info_parts (P := Try.prog) (e := 5) (z := .int .u8 0) (size := 1) (bytes := 1) (by kernel_rfl)
  by_cases hs : s.size ≤ 20000
  · have OW0 := Lib.hid (World.ownsRow_lit (base := w.heap.size) (e := 5) (size := 1) w #[] 0 (Nat.le_refl _) (by omega) rfl)
    have B0 : Hid (Below w.heap.size w (w.alloc (.cells #[] 5))) := (Below.refl _ _).alloc (Nat.le_refl _) _
    go_enter Try.func5, Try.ntmps5
    go_wp2_with fail
    go_loopw [4, 5] (fun v i wr => ∃ k : Nat, k ≤ s.size ∧ i = .int .i64 k ∧ wr.ownsRow w.heap.size 5 1 v (2 * k) (Lib.byteCells (enc (s.data.toList.take k))) ∧ Below w.heap.size w wr) (fun _ i _ => s.size - (intOf i).toNat)
    case atStart => exact ⟨0, Nat.zero_le _, rfl, by simpa [enc, Lib.byteCells] using OW0.out, B0.out⟩
    case round =>
      obtain ⟨k, hk, rfl, hown, hbel⟩ := hrel
      have HO := Lib.hid hown
      have HB := Lib.hid hbel
      clear hown hbel
      by_cases hlt : k < s.size
      · go_wp2_with fail
        have hb := s[k].toNat_lt
        have d1 : IntKind.i64.wrap (s[k].toNat : Int) = (s[k].toNat : Int) := IntWalk.i64_in _ (by omega)
        have d2 : (s[k].toNat : Int).tdiv 16 = (s[k].toNat : Int) / 16 := Int.tdiv_eq_ediv_of_nonneg (by omega)
        have d3 : IntKind.i64.wrap ((s[k].toNat : Int) / 16) = (s[k].toNat : Int) / 16 := IntWalk.i64_in _ (by omega)
        have d4 : (s[k].toNat : Int).tmod 16 = (s[k].toNat : Int) % 16 := Int.tmod_eq_emod_of_nonneg (by omega)
        have d5 : IntKind.i64.wrap ((s[k].toNat : Int) % 16) = (s[k].toNat : Int) % 16 := IntWalk.i64_in _ (by omega)
        have z1 : w.heap.size ≤ wr.heap.size := HB.out.size
        go_region_law (first
          | (refine step_append_own rfl (.tmp 16) (.tmp 29) 25 rfl w.heap.size 5 i0 (.int .u8 0) 1 1 Try.underlying25 hi hz0 hz1 hz2 rfl (by decide) _ (2 * k) _ rfl (HO.out.drew.alloc _) ⟨_, 0, none⟩ 2 2 [.int .u8 (figI ((s[k].toNat : Int) / 16)), .int .u8 (figI ((s[k].toNat : Int) % 16))] rfl rfl (news2 _ _ _ _ (by simp)) (by simp [Value.oneCell']) (by unfold maxLen; omega) (by omega) (by simp; omega) ?_; intro v8 w8 own8 gr8)
          | (go_simp; go_at_call 9; refine (figure _ (by omega) (by omega) _).mono ?_; rintro e w' ⟨rfl, rfl⟩))
        all_goals
          (have OW8 := Lib.hid own8
           have HB8 := Lib.hid (below_row (HB.out.drew.alloc (by simp; omega) _) gr8 (fun b e => (HO.out.lt b e).1))
           clear own8 gr8 d1 d2 d3 d4 d5
           go_wp2_with fail
           go_roundw
           case rel => exact ⟨k + 1, by omega, by go_num, by rw [enc_step s k hlt]; exact OW8.out, HB8.out⟩
           case measure => simp [intOf]; omega)
      · obtain rfl : k = s.size := by omega
        have hL : Hid (encL s = enc s.data.toList) := by show _ = _; unfold encL; rw [if_pos hs]
        have hB : Hid (encB s = true) := by show _ = _; unfold encB; rw [decide_eq_true hs]
        have ht : s.data.toList.take s.size = s.data.toList := List.take_of_length_le (by show s.data.size ≤ _; exact Nat.le_refl _)
        rw [ht] at HO
        clear ht
        have hcv := own_string (P := Try.prog) (src := 25) (dst := 9) HO.out Try.underlying25 Try.underlying5 Try.underlying9
        go_wp2_with fail
        go_ret2
        exact ⟨by (rw [hL.out, hB.out] <;> rfl), HB.out⟩
  · have hL : Hid (encL s = []) := by show _ = _; unfold encL; rw [if_neg hs]
    have hB : Hid (encB s = false) := by show _ = _; unfold encB; rw [decide_eq_false hs]
    go_enter Try.func5, Try.ntmps5
    go_wp2_with fail
    go_ret2
    exact ⟨by rw [hL.out, hB.out]; rfl, Below.refl _ _⟩
end Go.Proofs.Ytmpeolnnfblbkaa.hex
