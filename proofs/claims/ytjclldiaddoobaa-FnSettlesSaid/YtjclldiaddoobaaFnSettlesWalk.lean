/- The law FnSettles, walked: it returns true. -/
import Derived.Test.YtjclldiaddoobaaRows
import Derived.Test.YtjclldiaddoobaaDrawRanges
import Derived.Test.YtjclldiaddoobaaBig
import Derived.Test.YtjclldiaddoobaaRngL
namespace Go.Proofs.Ytjclldiaddoobaa.fnSettles
open Go.RowKit draw base same Fl rng
set_option linter.unusedVariables false

set_option maxHeartbeats 2000000 in
theorem walk (A : Option Addr) (n c : Nat) (w : World) (hb : Bytes w A n c) :
    Calls Try.prog 13 #[.slice A n c] w fun e w' => e = .returned (.bool true) ∧ Below w.heap.size w w' := by
  have HB := Lib.hid hb
  clear hb
  by_cases hbig : (n : Int) > 1048576
  · have hd : decide ((n : Int) > 1048576) = true := by simpa using hbig
    go_enter Try.func13, Try.ntmps13
    go_wp2_with fail
    refine (big A n c _).mono ?_
    rintro e w1 ⟨rfl, rfl⟩
    go_wp2_with fail
    go_ret
    exact ⟨rfl, Below.refl _ _⟩
  · have hd : decide ((n : Int) > 1048576) = false := by simpa using hbig
    go_enter Try.func13, Try.ntmps13
    go_wp2_with fail
    refine (big A n c _).mono ?_
    rintro e w1 ⟨rfl, rfl⟩
    go_wp2_with fail
    refine (drawRanges w A n c HB.out).mono ?_
    rintro e w1 ⟨gg, m, cap, F, D, U, x, rfl, hr, hg, hm, hx, b1⟩
    have HR := Lib.hid hr
    have B1 := Lib.hid b1
    clear hr b1 hbig hd
    go_wp2_with fail
    refine (impl_ok _ m cap F D U _ HR.out).mono ?_
    rintro e w1a ⟨rfl, b1a⟩
    rw [hg]
    have B1A := Lib.hid b1a
    clear b1a
    go_wp2_with fail
    go_loopw [5] (fun i wr => ∃ k : Nat, k ≤ m ∧ i = .int .i64 k ∧ Below w1.heap.size w1 wr) (fun i _ => m - (intOf i).toNat)
    case atStart => exact ⟨0, Nat.zero_le _, rfl, B1A.out⟩
    case round =>
      obtain ⟨k, hk, rfl, hbel⟩ := hrel
      have HBL := Lib.hid hbel
      clear hbel
      by_cases hkm : k < m
      · have hkok := okAt_of hg hkm
        go_wp2_with fail
        refine (impl_Settle _ m cap F D U k x _ (HR.out.below HBL.out)).mono ?_
        rintro e w2 ⟨r, rfl, hs, b2⟩
        obtain ⟨s, rfl, hsm, hrest⟩ : ∃ s : Nat, r = s ∧ s < m ∧ rng.Rest m D U x k s := by
          rcases hs with ⟨h0, _⟩ | ⟨_, s, e, h1, h2⟩
          · rw [hkok] at h0; cases h0
          · exact ⟨s, e, h1, by simpa using h2⟩
        have BB2 := Lib.hid (HBL.out.trans (b2.mono HBL.out.size))
        clear b2 hs
        go_wp2_with fail
        refine (impl_StepRange _ m cap F D U k x _ (HR.out.below BB2.out)).mono ?_
        rintro e w3 ⟨rfl, b3⟩
        rw [step_ok x hkok]
        have BB3 := Lib.hid (BB2.out.trans (b3.mono BB2.out.size))
        clear b3
        have hway := rest_way hg hkm hrest
        have hfix := hrest.2
        have hsok := okAt_of hg hsm
        have HS2 := Lib.hid hsok
        have HF2 := Lib.hid hfix
        generalize stepN m D U k x = t at hway ⊢
        have g1 : decide ((s : Int) < 0) = false := by simp
        have g2 : decide ((s : Int) ≥ (m : Int)) = false := by simp; omega
        rcases Nat.lt_trichotomy t k with htk | htk | htk
        · have hsk : s < k := hway.2.2 htk
          have g3 : decide ((s : Int) > (k : Int)) = false := by simp; omega
          have g4 : decide ((t : Int) > (k : Int)) = false := by simp; omega
          have g5 : decide ((s : Int) < (k : Int)) = true := by simp; omega
          have g6 : decide ((t : Int) < (k : Int)) = true := by simp; omega
          clear hway hrest hfix hsok hkok
          go_wp2_with fail
          refine (impl_StepRange _ m cap F D U s x _ (HR.out.below BB3.out)).mono ?_
          rintro e w4 ⟨rfl, b4⟩
          rw [step_ok x HS2.out, HF2.out]
          have BB4 := Lib.hid (BB3.out.trans (b4.mono BB3.out.size))
          clear b4
          go_wp2_with fail
          go_roundw
          case rel => exact ⟨k + 1, by omega, by go_num, BB4.out⟩
          case measure => simp [intOf]; omega
        · have hsk : s = k := by have := hway.1.1; have := hway.2.1; omega
          subst hsk
          subst htk
          have g3 : decide ((t : Int) > (t : Int)) = false := by simp
          have g4 : decide ((t : Int) > (t : Int)) = false := by simp
          have g5 : decide ((t : Int) < (t : Int)) = false := by simp
          have g6 : decide ((t : Int) < (t : Int)) = false := by simp
          clear hway hrest hfix hsok hkok
          go_wp2_with fail
          refine (impl_StepRange _ m cap F D U t x _ (HR.out.below BB3.out)).mono ?_
          rintro e w4 ⟨rfl, b4⟩
          rw [step_ok x HS2.out, HF2.out]
          have BB4 := Lib.hid (BB3.out.trans (b4.mono BB3.out.size))
          clear b4
          go_wp2_with fail
          go_roundw
          case rel => exact ⟨t + 1, by omega, by go_num, BB4.out⟩
          case measure => simp [intOf]; omega
        · have hsk : s > k := hway.1.2 htk
          have g3 : decide ((s : Int) > (k : Int)) = true := by simp; omega
          have g4 : decide ((t : Int) > (k : Int)) = true := by simp; omega
          have g5 : decide ((s : Int) < (k : Int)) = false := by simp; omega
          have g6 : decide ((t : Int) < (k : Int)) = false := by simp; omega
          have n1 : decide (s < k) = false := by simp; omega
          have n2 : decide (t < k) = false := by simp; omega
          have n3 : decide (k < s) = true := by simp; omega
          have n4 : decide (k < t) = true := by simp; omega
          clear hway hrest hfix hsok hkok
          go_wp2_with fail
          refine (impl_StepRange _ m cap F D U s x _ (HR.out.below BB3.out)).mono ?_
          rintro e w4 ⟨rfl, b4⟩
          rw [step_ok x HS2.out, HF2.out]
          have BB4 := Lib.hid (BB3.out.trans (b4.mono BB3.out.size))
          clear b4
          go_wp2_with fail
          go_roundw
          case rel => exact ⟨k + 1, by omega, by go_num, BB4.out⟩
          case measure => simp [intOf]; omega
      · have : k = m := by omega
        subst this
        go_wp2_with fail
        refine (impl_Settle _ k cap F D U k x _ (HR.out.below HBL.out)).mono ?_
        rintro e w2 ⟨r, rfl, hs, b2⟩
        obtain rfl : r = -1 := by
          rcases hs with ⟨_, h⟩ | ⟨h, _⟩
          · exact h
          · obtain ⟨_, j, hj, hjk⟩ := okAt_k h
            omega
        have BB2 := Lib.hid (HBL.out.trans (b2.mono HBL.out.size))
        clear b2 hs
        go_wp2_with fail
        go_ret
        exact ⟨rfl, B1.out.trans (BB2.out.mono B1.out.size)⟩
end Go.Proofs.Ytjclldiaddoobaa.fnSettles
