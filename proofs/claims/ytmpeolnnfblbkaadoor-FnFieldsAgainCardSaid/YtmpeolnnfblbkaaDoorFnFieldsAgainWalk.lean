/- The law FnFieldsAgain, walked: it returns true. -/
import Derived.Test.YtmpeolnnfblbkaaDoorRows
import Derived.Test.YtmpeolnnfblbkaaDoorFnExactSplitFieldsWalk
import Derived.Test.YtmpeolnnfblbkaaDoorSfA
import Derived.Test.YtmpeolnnfblbkaaDoorDrawSf
import Derived.Test.YtmpeolnnfblbkaaDoorBig
import Derived.Test.YtmpeolnnfblbkaaDoorSub
namespace Go.Proofs.YtmpeolnnfblbkaaDoor.fnFieldsAgain
open Go.RowKit draw base sf fnExactSplitFields
set_option linter.unusedVariables false

theorem itoa3 : Lib.itoa (-3) = [45, 51] := by decide +kernel
theorem jlen (l : List UInt8) : (joined (fields l)).length ≤ l.length + 1 := by
  have key : ∀ (l : List UInt8) (p : List (List UInt8) × List UInt8), (joined (l.foldl stepF p).1).length + (l.foldl stepF p).2.length ≤ (joined p.1).length + p.2.length + l.length := by
    intro l
    induction l with
    | nil => intro p; simp
    | cons c l ih =>
      intro p
      rw [List.foldl_cons]
      have h1 := ih (stepF p c)
      have h2 : (joined (stepF p c).1).length + (stepF p c).2.length ≤ (joined p.1).length + p.2.length + 1 := by
        unfold stepF
        split
        · split
          · simp <;> omega
          · rw [joined_snoc]; simp <;> omega
        · simp <;> omega
      simp only [List.length_cons]; omega
  have h := key l ([], [])
  unfold fields flush runF
  split
  · simp [joined] at h ⊢; omega
  · rw [joined_snoc]; simp [joined] at h ⊢; omega
theorem jtake (L : List (List UInt8)) (k : Nat) : (joined (L.take k)).length ≤ (joined L).length := by
  conv => rhs; rw [← List.take_append_drop k L]
  unfold joined
  rw [List.flatMap_append, List.length_append]; omega

set_option maxHeartbeats 4000000 in
theorem walk (A : Option Addr) (n c : Nat) (w : World) (hb : Bytes w A n c) (ht : tab.Tab w) (hM : MaxI w) :
    Calls Tryd.prog 6 #[.slice A n c] w fun e w' => e = .returned (.bool true) ∧ Below w.heap.size w w' := by
  have HB := Lib.hid hb
  have HT := Lib.hid ht
  have HM := Lib.hid hM
  clear hb ht hM
  by_cases hbig : (n : Int) > 1048576
  · have hd : decide ((n : Int) > 1048576) = true := by simpa using hbig
    go_enter Tryd.func6, Tryd.ntmps6
    go_wp2_with fail
    refine (big A n c _).mono ?_
    rintro e w1 ⟨rfl, rfl⟩
    go_wp2_with fail
    go_ret
    exact ⟨rfl, Below.refl _ _⟩
  · have hd : decide ((n : Int) > 1048576) = false := by simpa using hbig
    go_enter Tryd.func6, Tryd.ntmps6
    go_wp2_with fail
    refine (big A n c _).mono ?_
    rintro e w1 ⟨rfl, rfl⟩
    go_wp2_with fail
    refine (drawSplitFields w A n c HB.out).mono ?_
    rintro e w2 ⟨l, hl, rfl, b2⟩
    have HB2 := Lib.hid b2
    have HM2 := Lib.hid (MaxI.below HM.out b2)
    have hsz : (⟨l.toArray⟩ : ByteArray).size ≤ 9223372036854775807 := by show l.toArray.size ≤ _; simp; omega
    have HSZ := Lib.hid hsz
    have hdl : (⟨l.toArray⟩ : ByteArray).data.toList = l := by simp
    clear b2 hbig hd hsz hdl
    go_wp2_with fail
    refine (impl_SplitFields _ HSZ.out _ HM2.out).mono ?_
    rintro en w3 ⟨v1, rfl, r1, b3⟩
    obtain ⟨A1, c1, rfl, s1, _⟩ := row_Ss r1
    have HB3 := Lib.hid (HB2.out.trans (b3.mono HB2.out.size))
    have S1 := Lib.hid s1
    clear r1 s1 b3
    go_wp2_with fail
    refine (spec_SplitFields _ HSZ.out _).mono ?_
    rintro en w4 ⟨v2, rfl, r2, b4⟩
    obtain ⟨A2, c2, rfl, _, _⟩ := row_Ss r2
    have HB4 := Lib.hid (HB3.out.trans (b4.mono HB3.out.size))
    have S14 := Lib.hid (Ss.below S1.out b4)
    clear r2 b4
    have hdl : (⟨l.toArray⟩ : ByteArray).data.toList = l := by simp
    try rw [hdl] at S14
    try rw [hdl]
    clear S1 hdl
    cases hok : sfOk l with
    | false =>
      have hv := (sf_no hok).2
      rw [hv]
      have T4 := Lib.hid (HT.out.below (Nat.le_refl _) HB4.out)
      clear hok hv
      go_wp2_with fail
      refine (tab.formatInt (-3) (by omega) (by omega) _ T4.out).mono ?_
      rintro e w5 ⟨rfl, b5, _⟩
      have HB5 := Lib.hid (HB4.out.trans (b5.mono HB4.out.size))
      clear b5
      rw [itoa3]
      go_wp2_with fail
      go_ret
      exact ⟨rfl, HB5.out⟩
    | true =>
      have HOK := Lib.hid hok
      have hv := (sf_yes hok).2
      have hj := jlen l
      rw [hv] at S14 ⊢
      obtain ⟨V, hV⟩ : ∃ V, fields l = V := ⟨_, rfl⟩
      rw [hV] at S14 hj ⊢
      have HV := Lib.hid hV
      have hjt : Hid (∀ k, (joined (V.take k)).length ≤ 2001) := fun k => by have := jtake V k; omega
      obtain ⟨N, hN⟩ : ∃ N, V.length = N := ⟨_, rfl⟩
      rw [hN] at S14 ⊢
      have HN := Lib.hid hN
      have hNb : N ≤ 24 := by have := sfV_len l; rw [hv, hV, hN] at this; exact this
      clear hok hv hV hN hj
      go_wp2_with fail
      go_loopw [8, 9] (fun sv iv wr => ∃ k : Nat, k ≤ N ∧ iv = .int .i64 k ∧ sv = .string ⟨(joined (V.take k)).toArray⟩ ∧ Below w4.heap.size w4 wr) (fun _ i _ => N - (intOf i).toNat)
      case atStart => exact ⟨0, Nat.zero_le _, rfl, by simp [joined], Below.refl _ _⟩
      case round =>
        obtain ⟨k, hk, rfl, rfl, hbel⟩ := hrel
        have HBL := Lib.hid hbel
        have hjk := hjt.out k
        by_cases hkN : k < N
        · obtain ⟨h1, h2, h3⟩ := Ss.below S14.out hbel
          obtain ⟨b, off, rfl, hlt, hcell⟩ := h3 (by omega)
          have t1 := hcell k hkN
          obtain ⟨y, hy⟩ : ∃ y, V.getD k [] = y := ⟨_, rfl⟩
          have htx : tx V k = ⟨y.toArray⟩ := by unfold tx; rw [hy]
          rw [htx] at t1
          have hjs : joined (V.take (k + 1)) = joined (V.take k) ++ (y ++ [32]) := by
            rw [List.take_succ_eq_append_getElem (by rw [HN.out]; exact hkN), joined_snoc]
            have : V[k]'(by rw [HN.out]; exact hkN) = y := by rw [← hy]; simp [List.getD, HN.out, hkN]
            rw [this]
          have hjl := hjt.out (k + 1)
          rw [hjs, List.length_append, List.length_append] at hjl
          have HJS := Lib.hid hjs
          obtain ⟨J, hJ⟩ : ∃ J, joined (V.take k) = J := ⟨_, rfl⟩
          rw [hJ] at hjl HJS hjk ⊢
          have hl1 : ¬ 9223372036854775807 < J.length + y.length := by omega
          have hl2 : ¬ 9223372036854775807 < J.length + y.length + 1 := by omega
          clear hcell hy htx hjs hjl hJ hbel
          go_wp2_with fail
          go_roundw
          case rel => exact ⟨k + 1, by omega, by go_num, by rw [HJS.out, ← cat_ll, ← cat_ll, ByteArray.append_assoc], HBL.out⟩
          case measure => simp [intOf]; omega
        · obtain rfl : k = N := by omega
          have hta : V.take k = V := List.take_of_length_le (by rw [HN.out]; exact Nat.le_refl _)
          rw [hta] at hjk ⊢
          have S1w := Lib.hid (Ss.below S14.out hbel)
          have HBw := Lib.hid (HB4.out.trans (hbel.mono HB4.out.size))
          have HMw := Lib.hid (MaxI.below HM.out HBw.out)
          have hsz2 : (⟨(joined V).toArray⟩ : ByteArray).size ≤ 9223372036854775807 := by show (joined V).toArray.size ≤ _; simp; omega
          have HSZ2 := Lib.hid hsz2
          clear hta hbel hsz2
          go_wp2_with fail
          refine (impl_SplitFields _ HSZ2.out _ HMw.out).mono ?_
          rintro en w6 ⟨v6, rfl, r6, b6⟩
          obtain ⟨A6, c6, rfl, s6, _⟩ := row_Ss r6
          have HB6 := Lib.hid (HBw.out.trans (b6.mono HBw.out.size))
          have S16 := Lib.hid (Ss.below S1w.out b6)
          have S6 := Lib.hid s6
          clear r6 s6 b6
          have hdj : (⟨(joined V).toArray⟩ : ByteArray).data.toList = joined V := by simp
          try rw [hdj] at S6
          try rw [hdj]
          clear hdj
          by_cases h600 : 600 < (joined V).length
          · go_wp2_with fail
            first | (go_ret; exact ⟨rfl, HB6.out⟩) | (go_region; go_wp2_with fail; go_ret; exact ⟨rfl, HB6.out.drew⟩)
          · have hjj := sf_join HOK.out (by rw [HV.out]; omega)
            rw [HV.out] at hjj
            rw [hjj.1, hjj.2, HN.out]
            rw [hjj.2, HN.out] at S6
            clear hjj
            go_wp2_with fail
            refine (sameTexts A1 A6 _ c1 c6 _ _ S16.out S6.out).mono ?_
            rintro e w7 ⟨rfl, b7⟩
            have HB7 := Lib.hid (HB6.out.trans (b7.mono HB6.out.size))
            clear b7
            go_wp2_with fail
            go_ret
            exact ⟨rfl, HB7.out⟩
end Go.Proofs.YtmpeolnnfblbkaaDoor.fnFieldsAgain
