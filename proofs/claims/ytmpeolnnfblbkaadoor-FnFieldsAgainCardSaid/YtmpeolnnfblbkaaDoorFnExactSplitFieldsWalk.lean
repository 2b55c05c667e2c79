/- The law FnExactSplitFields, walked: it returns true. -/
import Derived.Test.YtmpeolnnfblbkaaDoorRows
import Derived.Test.YtmpeolnnfblbkaaDoorSfS
import Derived.Test.YtmpeolnnfblbkaaDoorMarkT
namespace Go.Proofs.YtmpeolnnfblbkaaDoor.fnExactSplitFields
open Go.RowKit base sf
set_option linter.unusedVariables false

def tx (L : List (List UInt8)) (j : Nat) : ByteArray := ⟨(L.getD j []).toArray⟩
theorem row_Ss {W : World} {base : Nat} {v : Value} {L : List (List UInt8)} (h : W.ownsRow base 9 1 v L.length (strs L)) :
    ∃ A c, v = .slice A L.length c ∧ Ss W A L.length c (tx L) ∧ (L.length = 0 ∨ ∃ g, A = some ⟨g, 0, none⟩ ∧ base ≤ g ∧ g < W.heap.size ∧ ∀ o, W.frozen? ⟨g, o, none⟩ = false) := by
  rcases h.2 with ⟨rfl, h0⟩ | ⟨g, cap, cur, rfl, hb, hg, hc, hm, hcs, htk⟩
  · exact ⟨none, 0, by rw [h0], ⟨by omega, by omega, fun h => by omega⟩, Or.inl h0⟩
  · have hlt : g < W.heap.size := by
      rcases Nat.lt_or_ge g W.heap.size with h' | h'
      · exact h'
      · rw [Array.getElem?_eq_none h'] at hg; cases hg
    refine ⟨_, cap, rfl, ⟨hc, by unfold maxLen at hm; omega, fun hn => ⟨g, 0, rfl, hlt, fun j hj => ?_⟩⟩, Or.inr ⟨g, rfl, hb, hlt, fun o => h.frozenAt o⟩⟩
    rw [Nat.zero_add, h.cellAt j (by omega)]
    unfold strs tx
    rw [List.getElem?_map, List.getElem?_eq_getElem hj]
    simp [List.getD, hj]
theorem Ss.grown {w w' : World} {A : Option Addr} {n c b : Nat} {X : Nat → ByteArray} (h : Ss w A n c X) (hg : w.grownBy w' (some b)) (hne : ∀ g o, A = some ⟨g, o, none⟩ → 0 < n → g ≠ b) : Ss w' A n c X := by
  obtain ⟨h1, h2, h3⟩ := h
  refine ⟨h1, h2, fun hn => ?_⟩
  obtain ⟨b', off, e, hlt, hc⟩ := h3 hn
  have hb := hg.block b' hlt (by intro h; injection h with h; exact hne b' off e hn h)
  exact ⟨b', off, e, Nat.lt_of_lt_of_le hlt hg.size, fun j hj => (World.cell?_of_block hb).trans (hc j hj)⟩
theorem MaxI.below {w w' : World} (h : MaxI w) (hb : Below w.heap.size w w') : MaxI w' := by
  obtain ⟨m, hm⟩ := h
  refine ⟨m, (hb.cell ?_).trans hm⟩
  rcases Nat.lt_or_ge 1 w.heap.size with h' | h'
  · exact h'
  · simp [World.cell?, Array.getElem?_eq_none h'] at hm
theorem sfV_len (l : List UInt8) : (sfV l).length ≤ 24 := by
  unfold sfV
  split
  · rename_i h
    unfold sfOk at h
    simp only [Bool.and_eq_true, decide_eq_true_eq] at h
    exact h.2
  · simp
theorem mark0 (A : Option Addr) (c : Nat) (w : World) : Calls Tryd.prog 16 #[.slice A 0 c, .int .i64 1] w fun e w' => e = .returned (.int .i64 (1 + (0 : Nat))) ∧ w = w' := by
  go_enter Tryd.func16, Tryd.ntmps16
  go_wp2_with fail
  go_loopw [1, 5] (fun kv i wr => i = .int .i64 0 ∧ kv = .int .i64 1 ∧ wr = w) (fun _ _ _ => 0)
  case atStart => exact ⟨rfl, rfl, rfl⟩
  case round =>
    obtain ⟨rfl, rfl, rfl⟩ := hrel
    go_wp2_with fail
    go_ret
    exact ⟨rfl, rfl⟩
/-- marks in the call's own row: the marks are held, what was laid ahead is as it was -/
theorem mark_ (A : Option Addr) (n c base : Nat) (X : Nat → ByteArray) (w : World) (h : Ss w A n c X) (hn : n ≤ 24) (hA : n = 0 ∨ ∃ g, A = some ⟨g, 0, none⟩ ∧ base ≤ g ∧ g < w.heap.size ∧ ∀ o, w.frozen? ⟨g, o, none⟩ = false) :
    Calls Tryd.prog 16 #[.slice A n c, .int .i64 1] w fun e w' => e = .returned (.int .i64 (1 + n)) ∧ Ss w' A n c (fun j => mt (1 + j)) ∧ ∃ b, (n = 0 ∨ base ≤ b) ∧ w.grownBy w' (some b) ∧ (n = 0 → w = w') := by
  rcases Nat.eq_zero_or_pos n with h0 | h0
  · subst h0
    refine (mark0 A c w).mono ?_
    rintro e w' ⟨he, rfl⟩
    exact ⟨he, ⟨h.1, h.2.1, fun h => by omega⟩, 0, Or.inl rfl, ⟨rfl, rfl, rfl, Nat.le_refl _, fun _ _ _ => rfl⟩, fun _ => rfl⟩
  · rcases hA with hA | ⟨g, rfl, hb, hlt, hf⟩
    · omega
    obtain ⟨h1, h2, h3⟩ := h
    obtain ⟨b', off', e, hlt', hc⟩ := h3 h0
    cases e
    refine (markStringS g n c w ⟨fun o _ => hf o, fun j hj => ⟨_, by have := hc j hj; rwa [Nat.zero_add] at this⟩, fun j hj => by omega, ⟨rfl, rfl, rfl, Nat.le_refl _, fun _ _ _ => rfl⟩⟩ h1 h2 (by omega) hlt).mono ?_
    rintro e w' ⟨he, m1, m2, m3, m4⟩
    exact ⟨he, ⟨h1, h2, fun _ => ⟨g, 0, rfl, Nat.lt_of_lt_of_le hlt m4.size, fun j hj => by rw [Nat.zero_add]; exact m3 j hj⟩⟩, g, Or.inr hb, m4, fun h => by omega⟩

set_option maxHeartbeats 4000000 in
theorem walk (s : ByteArray) (ws : s.size ≤ maxLen) (w : World) (hM : MaxI w) :
    Calls Tryd.prog 5 #[.string s] w fun en w' => en = .returned (.bool true) ∧ Below w.heap.size w w' := by
  have HM := Lib.hid hM
  clear ws hM
  by_cases hs : 1048576 < s.size
  · go_enter Tryd.func5, Tryd.ntmps5
    go_wp2_with fail
    go_ret
    exact ⟨rfl, Below.refl _ _⟩
  · have hsm : s.size ≤ 9223372036854775807 := by omega
    have HSM := Lib.hid hsm
    clear hsm
    go_enter Tryd.func5, Tryd.ntmps5
    go_wp2_with fail
    refine (spec_SplitFields s HSM.out _).mono ?_
    rintro en w1 ⟨v0, rfl, r0, b1⟩
    obtain ⟨A0, c0, rfl, s0, a0⟩ := row_Ss r0
    have B1 := Lib.hid b1
    have S0 := Lib.hid s0
    have HA0 := Lib.hid a0
    have M1 := Lib.hid (MaxI.below HM.out b1)
    clear r0 s0 a0 b1
    go_wp2_with fail
    refine (impl_SplitFields s HSM.out _ M1.out).mono ?_
    rintro en w2 ⟨v1, rfl, r1, b2⟩
    obtain ⟨A1, c1, rfl, s1, a1⟩ := row_Ss r1
    have B2 := Lib.hid (B1.out.trans (b2.mono B1.out.size))
    have S0' := Lib.hid (Ss.below S0.out b2)
    have S1 := Lib.hid s1
    have HA1 := Lib.hid a1
    clear r1 s1 a1
    go_wp2_with fail
    refine (eqStringS A1 A0 _ c1 c0 _ _ S1.out S0'.out).mono ?_
    rintro en w3 ⟨rfl, b3⟩
    have B3 := Lib.hid (B2.out.trans (b3.mono B2.out.size))
    have S03 := Lib.hid (Ss.below S0'.out b3)
    have S13 := Lib.hid (Ss.below S1.out b3)
    have HA3 : Hid ((sfV s.data.toList).length = 0 ∨ ∃ g, A1 = some ⟨g, 0, none⟩ ∧ w1.heap.size ≤ g ∧ g < w3.heap.size ∧ ∀ o, w3.frozen? ⟨g, o, none⟩ = false) := by
      rcases HA1.out with h | ⟨g, h1, h2, h3, h4⟩
      · exact Or.inl h
      · exact Or.inr ⟨g, h1, h2, Nat.lt_of_lt_of_le h3 b3.size, fun o => (b3.frozen (p := ⟨g, o, none⟩) h3).trans (h4 o)⟩
    clear b2 b3
    go_wp2_with fail
    have hlen := sfV_len s.data.toList
    have HLEN := Lib.hid hlen
    obtain ⟨V, hV⟩ : ∃ V, sfV s.data.toList = V := ⟨_, rfl⟩
    rw [hV] at S0 HA0 S0' S1 HA1 S03 S13 HA3 hlen HLEN
    rw [hV]
    have HV := Lib.hid hV
    obtain ⟨n, hn⟩ : ∃ n, V.length = n := ⟨_, rfl⟩
    rw [hn] at S0 HA0 S0' S1 HA1 S03 S13 HA3 hlen HLEN
    rw [hn]
    have HN := Lib.hid hn
    clear hV hn
    refine (mark_ A1 n c1 w1.heap.size _ _ S13.out HLEN.out HA3.out).mono ?_
    rintro en w4 ⟨rfl, s4, b, hb, g4, hz⟩
    have S14 := Lib.hid s4
    have B4 : Hid (Below w.heap.size w w4) := by
      show Below _ _ _
      rcases hb with h0 | hb
      · rw [← hz h0]; exact B3.out
      · exact below_row B3.out g4 (fun b' e => by cases e; exact Nat.le_trans B1.out.size hb)
    have S04 : Hid (Ss w4 A0 n c0 (tx V)) := by
      refine Ss.grown S03.out g4 ?_
      intro g o e hn
      rcases hb with h0 | hb
      · omega
      · rcases HA0.out with h | ⟨g', h1, h2, h3, h4⟩
        · omega
        · rw [h1] at e; cases e; omega
    clear s4 hb g4 hz
    go_wp2_with fail
    refine (heldStringS A1 n c1 _ S14.out (by omega)).mono ?_
    rintro en w5 ⟨rfl, b5⟩
    have B5 := Lib.hid (B4.out.trans (b5.mono B4.out.size))
    have S05 := Lib.hid (Ss.below S04.out b5)
    have S15 := Lib.hid (Ss.below S14.out b5)
    have M5 := Lib.hid (MaxI.below HM.out B5.out)
    clear b5
    go_wp2_with fail
    refine (impl_SplitFields s HSM.out _ M5.out).mono ?_
    rintro en w6 ⟨v2, rfl, r2, b6⟩
    rw [HV.out] at r2
    obtain ⟨A2, c2, rfl, s2, _⟩ := row_Ss r2
    rw [HN.out] at s2
    rw [HN.out]
    have B6 := Lib.hid (B5.out.trans (b6.mono B5.out.size))
    have S06 := Lib.hid (Ss.below S05.out b6)
    have S16 := Lib.hid (Ss.below S15.out b6)
    have S2 := Lib.hid s2
    clear r2 s2 b6
    go_wp2_with fail
    refine (eqStringS A2 A0 _ c2 c0 _ _ S2.out S06.out).mono ?_
    rintro en w7 ⟨rfl, b7⟩
    have B7 := Lib.hid (B6.out.trans (b7.mono B6.out.size))
    have S17 := Lib.hid (Ss.below S16.out b7)
    clear b7
    go_wp2_with fail
    refine (heldStringS A1 n c1 _ S17.out (by omega)).mono ?_
    rintro en w8 ⟨rfl, b8⟩
    have B8 := Lib.hid (B7.out.trans (b8.mono B7.out.size))
    clear b8
    go_wp2_with fail
    go_ret
    exact ⟨rfl, B8.out⟩
end Go.Proofs.YtmpeolnnfblbkaaDoor.fnExactSplitFields
