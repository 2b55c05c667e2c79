/- The law FnHexText, walked: it returns true. -/
import Derived.Test.YtmpeolnnfblbkaaDoorRows
import Derived.Test.YtmpeolnnfblbkaaDoorTab
import Derived.Test.YtmpeolnnfblbkaaDoorHexI
import Derived.Test.YtmpeolnnfblbkaaDoorHexDI
import Derived.Test.YtmpeolnnfblbkaaDoorDrawText
import Derived.Test.YtmpeolnnfblbkaaDoorBig
namespace Go.Proofs.YtmpeolnnfblbkaaDoor.fnHexText
open Go.RowKit draw base hex
set_option linter.unusedVariables false

theorem itoa10 : Lib.itoa 10 = [49, 48] := by decide +kernel

set_option maxHeartbeats 1000000 in
theorem walk (A : Option Addr) (n c : Nat) (w : World) (hb : Bytes w A n c) (ht : tab.Tab w) :
    Calls Tryd.prog 8 #[.slice A n c] w fun e w' => e = .returned (.bool true) ∧ Below w.heap.size w w' := by
  have HB := Lib.hid hb
  have HT := Lib.hid ht
  clear hb ht
  by_cases hbig : (n : Int) > 1048576
  · have hd : decide ((n : Int) > 1048576) = true := by simpa using hbig
    go_enter Tryd.func8, Tryd.ntmps8
    go_wp2_with fail
    refine (big A n c _).mono ?_
    rintro e w1 ⟨rfl, rfl⟩
    go_wp2_with fail
    go_ret
    exact ⟨rfl, Below.refl _ _⟩
  · have hd : decide ((n : Int) > 1048576) = false := by simpa using hbig
    go_enter Tryd.func8, Tryd.ntmps8
    go_wp2_with fail
    refine (big A n c _).mono ?_
    rintro e w1 ⟨rfl, rfl⟩
    go_wp2_with fail
    refine (drawEncodeHex w A n c HB.out).mono ?_
    rintro e w2 ⟨l, hl, rfl, b2⟩
    have HB2 := Lib.hid b2
    have HT2 := Lib.hid (HT.out.below (Nat.le_refl _) b2)
    clear b2 hbig
    go_wp2_with fail
    refine (impl_EncodeHex _ _).mono ?_
    rintro e w3 ⟨rfl, b3⟩
    have HB3 := Lib.hid (HB2.out.trans (b3.mono HB2.out.size))
    have HT3 := Lib.hid (HT2.out.below (Nat.le_refl _) b3)
    clear b3
    by_cases hsz : l.length ≤ 20000
    · have h1 : encB ⟨l.toArray⟩ = true := by unfold encB; exact decide_eq_true (by show l.toArray.size ≤ _; simpa using hsz)
      have h2 : encL ⟨l.toArray⟩ = enc l := by unfold encL; rw [if_pos (by show l.toArray.size ≤ _; simpa using hsz)]
      rw [h1, h2]
      clear h1 h2
      have HL := Lib.hid (dec_enc l hsz)
      have hel := enc_length l
      have hle : (enc l).length ≤ 40000 := by omega
      have hsz' : (⟨(enc l).toArray⟩ : ByteArray).size ≤ 9223372036854775807 := by show (enc l).toArray.size ≤ _; simp; omega
      have HS := Lib.hid hsz'
      clear hsz'
      go_wp2_with fail
      refine (impl_DecodeHex _ HS.out _).mono ?_
      rintro e w4 ⟨rfl, b4⟩
      have HB4 := Lib.hid (HB3.out.trans (b4.mono HB3.out.size))
      clear b4
      rw [HL.out.1, HL.out.2]
      go_wp2_with fail
      go_ret
      exact ⟨rfl, HB4.out⟩
    · have h1 : encB ⟨l.toArray⟩ = false := by unfold encB; exact decide_eq_false (by show ¬ l.toArray.size ≤ _; simpa using hsz)
      have h2 : encL ⟨l.toArray⟩ = [] := by unfold encL; rw [if_neg (by show ¬ l.toArray.size ≤ _; simpa using hsz)]
      rw [h1, h2]
      clear h1 h2
      go_wp2_with fail
      refine (tab.formatInt 10 (by omega) (by omega) _ HT3.out).mono ?_
      rintro e w4 ⟨rfl, b4, _⟩
      have HB4 := Lib.hid (HB3.out.trans (b4.mono HB3.out.size))
      clear b4
      rw [itoa10]
      go_wp2_with fail
      go_ret
      exact ⟨rfl, HB4.out⟩
end Go.Proofs.YtmpeolnnfblbkaaDoor.fnHexText
