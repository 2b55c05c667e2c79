/- EncodeHex in package impl, walked. -/
import Derived.Test.YtmpeolnnfblbkaaDoorHexE
import Derived.Test.YtmpeolnnfblbkaaDoorBuild
import Derived.Test.YtmpeolnnfblbkaaDoorBuildS
namespace Go.Proofs.YtmpeolnnfblbkaaDoor.hex
open Go.RowKit base
set_option linter.unusedVariables false

theorem figs_fin : ∀ x : Fin 16, (({ data := #[48, 49, 50, 51, 52, 53, 54, 55, 56, 57, 97, 98, 99, 100, 101, 102] } : ByteArray)[x.val]'x.isLt).toNat = fig x.val := by decide +kernel
theorem figs_at {x : Nat} (h : x < 16) (h' : x < ({ data := #[48, 49, 50, 51, 52, 53, 54, 55, 56, 57, 97, 98, 99, 100, 101, 102] } : ByteArray).size) : (({ data := #[48, 49, 50, 51, 52, 53, 54, 55, 56, 57, 97, 98, 99, 100, 101, 102] } : ByteArray)[x]'h').toNat = fig x := figs_fin ⟨x, h⟩

set_option maxHeartbeats 1000000 in
theorem impl_EncodeHex (s : ByteArray) (w : World) : Calls Tryd.prog 23 #[.string s] w (EncE s w) := by
  by_cases hs : s.size ≤ 20000
  · have BI : Hid (Lib.IsBuilder 50 5 w.heap.size w.heap.size [] (w.alloc (.cells #[.pointer none, .slice none 0 0] 50))) := Lib.fresh_isBuilder _ _ w
    have B0 : Hid (Below w.heap.size w (w.alloc (.cells #[.pointer none, .slice none 0 0] 50))) := (Below.refl _ _).alloc (Nat.le_refl _) _
    go_enter Tryd.func23, Tryd.ntmps23
    go_wp2_with fail
    go_loopw [5] (fun i wr => ∃ k : Nat, k ≤ s.size ∧ i = .int .i64 k ∧ Lib.IsBuilder 50 5 w.heap.size w.heap.size (Lib.byteCells (enc (s.data.toList.take k))) wr ∧ Below w.heap.size w wr) (fun i _ => s.size - (intOf i).toNat)
    case atStart => exact ⟨0, Nat.zero_le _, rfl, by simpa [enc, Lib.byteCells] using BI.out, B0.out⟩
    case round =>
      obtain ⟨k, hk, rfl, hown, hbel⟩ := hrel
      have HO := Lib.hid hown
      have HB := Lib.hid hbel
      clear hown hbel
      by_cases hlt : k < s.size
      · have hb := s[k].toNat_lt
        go_wp2_with fail
        refine (writeByte w.heap.size w.heap.size _ _ _ HO.out (by rw [Lib.byteCells_length, enc_length]; have := List.length_take_le k s.data.toList; omega) HB.out.size).mono ?_
        rintro e w1 ⟨rfl, h1, b1⟩
        rw [figs_at (by omega)] at h1
        have HO1 : Hid (Lib.IsBuilder 50 5 w.heap.size w.heap.size (Lib.byteCells (enc (s.data.toList.take k)) ++ [.int .u8 (figI ((s[k].toNat : Int) / 16))]) w1) := by
          rw [figI_of (n := s[k].toNat / 16) (by omega)]; exact Or.inr h1
        have HB1 := Lib.hid (HB.out.trans b1)
        clear h1 b1
        go_wp2_with fail
        refine (writeByte w.heap.size w.heap.size _ _ _ HO1.out (by rw [List.length_append, Lib.byteCells_length, enc_length]; have := List.length_take_le k s.data.toList; simp; omega) HB1.out.size).mono ?_
        rintro e w2 ⟨rfl, h2, b2⟩
        rw [figs_at (by omega)] at h2
        have HO2 : Hid (Lib.IsBuilder 50 5 w.heap.size w.heap.size (Lib.byteCells (enc (s.data.toList.take (k + 1)))) w2) := by
          show Lib.IsBuilder _ _ _ _ _ _
          rw [enc_step s k hlt, figI_of (x := (s[k].toNat : Int) % 16) (n := s[k].toNat % 16) (by omega)]
          rw [List.append_assoc] at h2
          exact Or.inr h2
        have HB2 := Lib.hid (HB1.out.trans b2)
        clear h2 b2
        go_wp2_with fail
        go_roundw
        case rel => exact ⟨k + 1, by omega, by go_num, HO2.out, HB2.out⟩
        case measure => simp [intOf]; omega
      · obtain rfl : k = s.size := by omega
        have hL : Hid (encL s = enc s.data.toList) := by show _ = _; unfold encL; rw [if_pos hs]
        have hB : Hid (encB s = true) := by show _ = _; unfold encB; rw [decide_eq_true hs]
        have ht : s.data.toList.take s.size = s.data.toList := List.take_of_length_le (by show s.data.size ≤ _; exact Nat.le_refl _)
        rw [ht] at HO
        clear ht
        go_wp2_with fail
        refine (builderString w.heap.size w.heap.size _ _ HO.out HB.out.size).mono ?_
        rintro e w1 ⟨rfl, b1⟩
        have HB1 := Lib.hid (HB.out.trans b1)
        clear b1
        go_wp2_with fail
        go_ret2
        exact ⟨by (rw [hL.out, hB.out] <;> rfl), HB1.out⟩
  · have hL : Hid (encL s = []) := by show _ = _; unfold encL; rw [if_neg hs]
    have hB : Hid (encB s = false) := by show _ = _; unfold encB; rw [decide_eq_false hs]
    go_enter Tryd.func23, Tryd.ntmps23
    go_wp2_with fail
    go_ret2
    exact ⟨by rw [hL.out, hB.out]; rfl, Below.refl _ _⟩
end Go.Proofs.YtmpeolnnfblbkaaDoor.hex
