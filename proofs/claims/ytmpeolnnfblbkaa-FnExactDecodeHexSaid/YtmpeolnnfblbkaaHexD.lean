/- DecodeHex in package spec, walked. -/
import Derived.Test.YtmpeolnnfblbkaaHexE
import Derived.Outline
namespace Go.Proofs.Ytmpeolnnfblbkaa.hex
open Go.RowKit base
set_option linter.unusedVariables false

/-- what DecodeHex tells -/
def DecE (s : ByteArray) (w : World) (e : Ending) (w' : World) : Prop := e = .returned (.tuple #[.string ⟨(decV s).toArray⟩, .bool (decOk s)]) ∧ Below w.heap.size w w'

theorem pr_at (s : ByteArray) (k : Nat) (h : 2 * k + 1 < s.size) : pr s k = (s[2 * k], s[2 * k + 1]) := by
  have h2 : 2 * k + 1 < s.data.toList.length := by simpa using h
  unfold pr
  rw [List.getD_eq_getElem?_getD, List.getD_eq_getElem?_getD, List.getElem?_eq_getElem (show 2 * k < s.data.toList.length by omega), List.getElem?_eq_getElem h2]
  rfl
theorem byteP_int {x y : Int} (h0 : 0 ≤ x) (h1 : x ≤ 15) (h2 : 0 ≤ y) (h3 : y ≤ 15) : ((UInt8.ofNat (16 * x + y).toNat).toNat : Int) = 16 * x + y := by
  rw [UInt8.toNat_ofNat', Nat.mod_eq_of_lt (by omega)]
  omega
theorem dec_step (s : ByteArray) (k : Nat) {x y : Int} (hx : val (pr s k).1 = x) (hy : val (pr s k).2 = y) (h0 : 0 ≤ x) (h1 : x ≤ 15) (h2 : 0 ≤ y) (h3 : y ≤ 15) :
    Lib.byteCells (decAt s (k + 1)) = Lib.byteCells (decAt s k) ++ [.int .u8 (16 * x + y)] := by
  rw [decAt_succ, Lib.byteCells_append]
  simp only [Lib.byteCells, List.map_cons, List.map_nil]
  unfold byteP
  rw [hx, hy, byteP_int h0 h1 h2 h3]

set_option maxHeartbeats 1000000 in
theorem spec_DecodeHex (s : ByteArray) (hm : s.size ≤ 9223372036854775807) (w : World) : Calls Try.prog 7 #[.string s] w (DecE s w) := by
  obtain ⟨i0, hi, hz0, hz1, hz2⟩ := info_parts (P := Try.prog) (e := 5) (z := .int .u8 0) (size := 1) (bytes := 1) (by kernel_rfl)
  by_cases hs : s.size ≤ 40000
  · have hd1 : decide ((s.size : Int) > 40000) = false := by simp; omega
    by_cases hodd : s.size % 2 = 0
    · have hd2 : ((s.size : Int) % 2 != 0) = false := by simp; omega
      have OW0 := Lib.hid (World.ownsRow_lit (base := w.heap.size) (e := 5) (size := 1) w #[] 0 (Nat.le_refl _) (by omega) rfl)
      have B0 : Hid (Below w.heap.size w (w.alloc (.cells #[] 5))) := (Below.refl _ _).alloc (Nat.le_refl _) _
      have HODD := Lib.hid hodd
      clear hodd
      go_enter Try.func7, Try.ntmps7
      go_wp2_with fail
      go_loopw [4, 5] (fun v i wr => ∃ j k : Nat, j ≤ s.size ∧ j = 2 * k ∧ i = .int .i64 j ∧ wr.ownsRow w.heap.size 5 1 v k (Lib.byteCells (decAt s k)) ∧ (∀ q, q < k → okP s q = true) ∧ Below w.heap.size w wr) (fun _ i _ => s.size - (intOf i).toNat)
      case atStart => exact ⟨0, 0, Nat.zero_le _, rfl, rfl, by simpa [decAt, Lib.byteCells] using OW0.out, fun q hq => absurd hq (by omega), B0.out⟩
      case round =>
        obtain ⟨j, k, hj, hjk, rfl, hown, hgood, hbel⟩ := hrel
        have HO := Lib.hid hown
        have HB := Lib.hid hbel
        have HG := Lib.hid hgood
        have HJ := Lib.hid hjk
        clear hown hbel hgood hjk
        by_cases hlt : j < s.size
        · have hlt2 : j + 1 < s.size := by have := HJ.out; have := HODD.out; omega
          have hpr : Hid (pr s k = (s[j], s[j + 1])) := by
            have e := HJ.out
            subst e
            exact pr_at s k hlt2
          go_wp2_with fail
          refine (value s[j] _).mono ?_
          rintro e w1 ⟨rfl, rfl⟩
          obtain ⟨x, hx⟩ : ∃ x, val s[j] = x := ⟨_, rfl⟩
          have hxb := val_lt s[j]
          rw [hx] at hxb ⊢
          have HX := Lib.hid hx
          clear hx
          go_wp2_with fail
          refine (value s[j + 1] _).mono ?_
          rintro e w1 ⟨rfl, rfl⟩
          obtain ⟨y, hy⟩ : ∃ y, val s[j + 1] = y := ⟨_, rfl⟩
          have hyb := val_lt s[j + 1]
          rw [hy] at hyb ⊢
          have HY := Lib.hid hy
          clear hy
          by_cases hx0 : x < 0
          · have hok : Hid (decOk s = false) := decOk_bad (k := k) (by have := HJ.out; omega) (by unfold okP; rw [hpr.out, HX.out, decide_eq_false (by omega), Bool.false_and])
            have hv : Hid (decV s = []) := decV_of hok.out
            go_wp2_with fail
            go_ret2
            exact ⟨by rw [hv.out, hok.out]; rfl, HB.out⟩
          · by_cases hy0 : y < 0
            · have hok : Hid (decOk s = false) := decOk_bad (k := k) (by have := HJ.out; omega) (by unfold okP; rw [hpr.out, HY.out]; simp; omega)
              have hv : Hid (decV s = []) := decV_of hok.out
              go_wp2_with fail
              go_ret2
              exact ⟨by rw [hv.out, hok.out]; rfl, HB.out⟩
            · have z1 : w.heap.size ≤ wr.heap.size := HB.out.size
              go_wp2_with (at_builtin; refine wpList_append_own _ rfl _ _ 25 rfl w.heap.size 5 i0 (.int .u8 0) 1 1 Try.underlying25 hi hz0 hz1 hz2 rfl (by decide) _ _ _ rfl (HO.out.alloc _) ⟨_, 0, none⟩ 1 1 [.int .u8 (16 * x + y)] rfl rfl (news1 _ _ _ (by simp)) (by simp [Value.oneCell']) (by have := HJ.out; unfold maxLen; omega) (by have := HJ.out; omega) (by simp; omega) ?_; intro v8 w8 own8 gr8 _)
              have OW8 := Lib.hid own8
              have HB8 := Lib.hid (below_row (HB.out.alloc HB.out.size _) gr8 (fun b e => (HO.out.lt b e).1))
              clear own8 gr8
              go_wp2_with fail
              go_roundw
              case rel =>
                refine ⟨j + 2, k + 1, by omega, by have := HJ.out; omega, by go_num, ?_, fun q hq => ?_, HB8.out⟩
                · rw [dec_step s k (x := x) (y := y) (by rw [hpr.out]; exact HX.out) (by rw [hpr.out]; exact HY.out) (by omega) (by omega) (by omega) (by omega)]
                  exact OW8.out
                · by_cases hqk : q = k
                  · subst hqk
                    unfold okP
                    rw [hpr.out, HX.out, HY.out]
                    simp; omega
                  · exact HG.out q (by omega)
              case measure => simp [intOf]; omega
        · have hk : k = s.size / 2 := by have := HJ.out; omega
          have hok : Hid (decOk s = true) := decOk_good HODD.out hs (fun q hq => HG.out q (by omega))
          have hv : Hid (decV s = decAt s k) := by rw [hk]; exact decV_good hok.out
          clear hk
          have hcv := own_string (P := Try.prog) (src := 25) (dst := 9) HO.out Try.underlying25 Try.underlying5 Try.underlying9
          go_wp2_with fail
          go_ret2
          exact ⟨by (rw [hv.out, hok.out] <;> rfl), HB.out⟩
    · have hd2 : ((s.size : Int) % 2 != 0) = true := by simp; omega
      have hok : Hid (decOk s = false) := decOk_odd hodd
      have hv : Hid (decV s = []) := decV_of hok.out
      clear hodd
      go_enter Try.func7, Try.ntmps7
      go_wp2_with fail
      go_ret2
      exact ⟨by rw [hv.out, hok.out]; rfl, Below.refl _ _⟩
  · have hd1 : decide ((s.size : Int) > 40000) = true := by simp; omega
    have hok : Hid (decOk s = false) := decOk_long hs
    have hv : Hid (decV s = []) := decV_of hok.out
    go_enter Try.func7, Try.ntmps7
    go_wp2_with fail
    go_ret2
    exact ⟨by rw [hv.out, hok.out]; rfl, Below.refl _ _⟩
end Go.Proofs.Ytmpeolnnfblbkaa.hex
