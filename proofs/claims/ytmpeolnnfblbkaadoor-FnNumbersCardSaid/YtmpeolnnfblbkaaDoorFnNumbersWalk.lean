/- The law FnNumbers, walked: it returns true. -/
import Derived.Test.YtmpeolnnfblbkaaDoorRows
import Derived.Test.YtmpeolnnfblbkaaDoorNumL
import Derived.Test.YtmpeolnnfblbkaaDoorDrawFmt
import Derived.Test.YtmpeolnnfblbkaaDoorBig
namespace Go.Proofs.YtmpeolnnfblbkaaDoor.fnNumbers
open Go.RowKit draw base pu
set_option linter.unusedVariables false

set_option maxHeartbeats 1000000 in
theorem walk (A : Option Addr) (n c : Nat) (w : World) (hb : Bytes w A n c) (ht : tab.Tab w) :
    Calls Tryd.prog 7 #[.slice A n c] w fun e w' => e = .returned (.bool true) ∧ Below w.heap.size w w' := by
  have HB := Lib.hid hb
  have HT := Lib.hid ht
  clear hb ht
  by_cases hbig : (n : Int) > 1048576
  · have hd : decide ((n : Int) > 1048576) = true := by simpa using hbig
    go_enter Tryd.func7, Tryd.ntmps7
    go_wp2_with fail
    refine (big A n c _).mono ?_
    rintro e w1 ⟨rfl, rfl⟩
    go_wp2_with fail
    go_ret
    exact ⟨rfl, Below.refl _ _⟩
  · have hd : decide ((n : Int) > 1048576) = false := by simpa using hbig
    go_enter Tryd.func7, Tryd.ntmps7
    go_wp2_with fail
    refine (big A n c _).mono ?_
    rintro e w1 ⟨rfl, rfl⟩
    go_wp2_with fail
    refine (drawFormatInt w A n c HB.out).mono ?_
    rintro e w2 ⟨x, rfl, x0, x1, b2⟩
    have HB2 := Lib.hid b2
    have HT2 := Lib.hid (HT.out.below (Nat.le_refl _) b2)
    clear b2 hbig
    go_wp2_with fail
    refine (tab.formatInt x x0 x1 _ HT2.out).mono ?_
    rintro e w3 ⟨rfl, b3, t3⟩
    have HB3 := Lib.hid (HB2.out.trans (b3.mono HB2.out.size))
    have HT3 := Lib.hid t3
    clear b3 t3
    have hsz : (⟨(Lib.itoa x).toArray⟩ : ByteArray).size ≤ 9223372036854775807 := by
      have := Lib.itoa_length_le x x0 x1
      show (Lib.itoa x).toArray.size ≤ _
      simp; omega
    have hsz' := Lib.hid hsz
    clear hsz
    go_wp2_with fail
    refine (impl_ParseUint ⟨(Lib.itoa x).toArray⟩ hsz'.out _ HT3.out).mono ?_
    rintro e w4 ⟨rfl, b4⟩
    have HB4 := Lib.hid (HB3.out.trans (b4.mono HB3.out.size))
    clear b4
    have e1 : (⟨(Lib.itoa x).toArray⟩ : ByteArray).data.toList = Lib.itoa x := by simp
    rw [e1]
    clear e1
    have hne : (Lib.itoa x == []) = false := beq_eq_false_iff_ne.2 (itoa_ne x)
    have hne2 : (Lib.itoa x).isEmpty = false := by simpa using itoa_ne x
    rcases pu_itoa x with ⟨h1, h2, h3, h4⟩ | ⟨h1, h3, h4⟩ | ⟨h1, h3, h4⟩
    all_goals
      (rw [h3, h4]
       clear h3 h4
       go_wp2_with fail
       go_ret
       exact ⟨rfl, HB4.out⟩)
end Go.Proofs.YtmpeolnnfblbkaaDoor.fnNumbers
