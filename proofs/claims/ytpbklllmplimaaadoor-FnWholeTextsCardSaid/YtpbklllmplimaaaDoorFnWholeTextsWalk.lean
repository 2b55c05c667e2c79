/- The law FnWholeTexts, walked: it returns true. -/
import Derived.Test.YtpbklllmplimaaaDoorRows
import Derived.Test.YtpbklllmplimaaaDoorTab
import Derived.Test.YtpbklllmplimaaaDoorDrawMk
import Derived.Test.YtpbklllmplimaaaDoorBig
import Derived.Test.YtpbklllmplimaaaDoorWh
import Derived.Test.YtpbklllmplimaaaDoorDecI
import Derived.Test.YtpbklllmplimaaaDoorSame64
import Derived.Test.YtpbklllmplimaaaDoorSub
namespace Go.Proofs.YtpbklllmplimaaaDoor.fnWholeTexts
open Go.RowKit draw base same Fl dec
set_option linter.unusedVariables false

theorem bare_no : rdOk ⟨#[55]⟩ = false := by
  have h : good (rest ⟨#[55]⟩) = false := by decide +kernel
  exact (rd_bad h).1
theorem cat_minus (l : List UInt8) : (⟨#[45]⟩ : ByteArray) ++ ⟨l.toArray⟩ = ⟨(45 :: l).toArray⟩ := by
  show (⟨([45] : List UInt8).toArray⟩ : ByteArray) ++ ⟨l.toArray⟩ = _
  rw [ByteArray.mk_append_mk]; simp
theorem cat_plus (l : List UInt8) : ((⟨#[43]⟩ : ByteArray) ++ ⟨l.toArray⟩) ++ ⟨#[46, 48]⟩ = ⟨(43 :: (l ++ [46, 48])).toArray⟩ := by
  show ((⟨([43] : List UInt8).toArray⟩ : ByteArray) ++ ⟨l.toArray⟩) ++ ⟨([46, 48] : List UInt8).toArray⟩ = _
  rw [ByteArray.mk_append_mk, ByteArray.mk_append_mk]; simp

set_option maxRecDepth 100000 in
set_option maxHeartbeats 4000000 in
theorem walk (A : Option Addr) (n c : Nat) (w : World) (hb : Bytes w A n c) (ht : tab.Tab w) :
    Calls Tryd.prog 5 #[.slice A n c] w fun e w' => e = .returned (.bool true) ∧ Below w.heap.size w w' := by
  have HB := Lib.hid hb
  have HT := Lib.hid ht
  clear hb ht
  by_cases hbig : (n : Int) > 1048576
  · have hd : decide ((n : Int) > 1048576) = true := by simpa using hbig
    go_enter Tryd.func5, Tryd.ntmps5
    go_wp2_with fail
    refine (big A n c _).mono ?_
    rintro e w1 ⟨rfl, rfl⟩
    go_wp2_with fail
    go_ret
    exact ⟨rfl, Below.refl _ _⟩
  · have hd : decide ((n : Int) > 1048576) = false := by simpa using hbig
    go_enter Tryd.func5, Tryd.ntmps5
    go_wp2_with fail
    refine (big A n c _).mono ?_
    rintro e w1 ⟨rfl, rfl⟩
    go_wp2_with fail
    refine (drawMakeSingle w A n c HB.out).mono ?_
    rintro e w1 ⟨s, m, ex, rfl, m0, m1, b1⟩
    have B1 := Lib.hid b1
    have T1 := Lib.hid (HT.out.below (Nat.le_refl _) b1)
    clear b1 hbig hd
    by_cases hin : 0 ≤ m ∧ m ≤ 16777215
    · obtain ⟨i0, i1⟩ := hin
      obtain ⟨N, rfl⟩ : ∃ N : Nat, m = N := ⟨m.toNat, by omega⟩
      have hN : N ≤ 16777215 := by omega
      have HN := Lib.hid hN
      have hl := dec_len8 hN
      clear m0 m1
      go_wp2_with fail
      refine (tab.formatInt N (by omega) (by omega) _ T1.out).mono ?_
      rintro e w2 ⟨rfl, b2, t2⟩
      have B2 := Lib.hid (B1.out.trans (b2.mono B1.out.size))
      have T2 := Lib.hid t2
      clear b2 t2
      rw [Lib.itoa_nonneg]
      go_wp2_with fail
      rw [cat_minus]
      refine (impl_ReadDecimal _ (by show (45 :: Lib.decDigits N).toArray.size ≤ _; simp; omega) _).mono ?_
      rintro e w3 ⟨rfl, b3⟩
      have B3 := Lib.hid (B2.out.trans (b3.mono B2.out.size))
      have T3 := Lib.hid (T2.out.below (Nat.le_refl _) b3)
      clear b3
      rw [(whole_minus HN.out).1, (whole_minus HN.out).2]
      go_wp2_with fail
      refine (tab.formatInt N (by omega) (by omega) _ T3.out).mono ?_
      rintro e w4 ⟨rfl, b4, t4⟩
      have B4 := Lib.hid (B3.out.trans (b4.mono B3.out.size))
      clear b4 t4
      rw [Lib.itoa_nonneg]
      go_wp2_with fail
      rw [cat_plus]
      refine (impl_ReadDecimal _ (by show (43 :: (Lib.decDigits N ++ [46, 48])).toArray.size ≤ _; simp; omega) _).mono ?_
      rintro e w5 ⟨rfl, b5⟩
      have B5 := Lib.hid (B4.out.trans (b5.mono B4.out.size))
      clear b5
      rw [(whole_plus HN.out).1, (whole_plus HN.out).2]
      have hneg := fun k b => unary_neg_float k b
      go_wp2_with fail
      refine (same32 _ _ _).mono ?_
      rintro e w6 ⟨rfl, b6⟩
      have B6 := Lib.hid (B5.out.trans (b6.mono B5.out.size))
      clear b6
      rw [sm32_refl]
      go_wp2_with fail
      refine (same32 _ _ _).mono ?_
      rintro e w7 ⟨rfl, b7⟩
      have B7 := Lib.hid (B6.out.trans (b7.mono B6.out.size))
      clear b7
      rw [sm32_refl]
      go_wp2_with fail
      go_ret
      exact ⟨rfl, B7.out⟩
    · have hd : (m < 0) ∨ (0 ≤ m ∧ 16777215 < m) := by omega
      have HR := Lib.hid bare_no
      clear hin
      rcases hd with hd | ⟨hd0, hd⟩
      all_goals
        (go_wp2_with fail
         refine (impl_ReadDecimal ⟨#[55]⟩ (by show (#[55] : Array UInt8).size ≤ _; simp) _).mono ?_
         rintro e w2 ⟨rfl, b2⟩
         have B2 := Lib.hid (B1.out.trans (b2.mono B1.out.size))
         clear b2
         rw [HR.out]
         go_wp2_with fail
         go_ret
         exact ⟨rfl, B2.out⟩)
end Go.Proofs.YtpbklllmplimaaaDoor.fnWholeTexts
