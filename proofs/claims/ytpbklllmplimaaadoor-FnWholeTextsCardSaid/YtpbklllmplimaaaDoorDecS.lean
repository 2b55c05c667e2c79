/- ReadDecimal in package spec, walked. -/
import Derived.Test.YtpbklllmplimaaaDoorDecF
import Derived.Test.YtpbklllmplimaaaDoorSignedS
import Derived.LoopTactic
import Derived.IntWalk
import Derived.Outline
namespace Go.Proofs.YtpbklllmplimaaaDoor.dec
open Go.RowKit Fl same base
set_option linter.unusedVariables false

/-- the state of the loop over the text: before the point, behind it -/
inductive Ph (r : List UInt8) (t : Nat) : Value → Value → Value → Prop
  | zero (h : (r.take t).all isDig = true) : Ph r t (.int .i64 (dv (r.take t) : Nat)) (.int .i64 (t : Nat)) (.int .i64 (-1))
  | one (q : Nat) (h0 : 1 ≤ q) (hq : q < t) (h1 : q + 1 < r.length) (h2 : r[q]? = some 46) (h3 : (r.take q).all isDig = true) (h4 : ((r.drop (q + 1)).take (t - (q + 1))).all isDig = true) :
      Ph r t (.int .i64 (dv (r.take q ++ (r.drop (q + 1)).take (t - (q + 1))) : Nat)) (.int .i64 ((t : Nat) - 1)) (.int .i64 ((q : Nat) + 1))

theorem take_snoc' {α : Type} {r : List α} {t : Nat} {c : α} (h : r[t]? = some c) : r.take (t + 1) = r.take t ++ [c] := by
  have hlt := (List.getElem?_eq_some_iff.1 h).1
  rw [List.take_succ_eq_append_getElem hlt]
  rw [(List.getElem?_eq_some_iff.1 h).2]
theorem drop_snoc {α : Type} {r : List α} {t q : Nat} {c : α} (h : r[t]? = some c) (hq : q < t) : (r.drop (q + 1)).take (t + 1 - (q + 1)) = (r.drop (q + 1)).take (t - (q + 1)) ++ [c] := by
  rw [show t + 1 - (q + 1) = t - (q + 1) + 1 by omega]
  refine take_snoc' ?_
  rw [List.getElem?_drop, show q + 1 + (t - (q + 1)) = t by omega]
  exact h
theorem lst_bound {l : List UInt8} {n : Nat} (h : l.all isDig = true) (hl : l.length ≤ n) (hn : n ≤ 16) : dv l < 10000000000000000 := by
  have h1 := dv_lt l h
  have h2 : 10 ^ l.length ≤ 10 ^ 16 := Nat.pow_le_pow_right (by omega) (by omega)
  omega

/-- a figure more -/
theorem Ph.step {r : List UInt8} {t : Nat} {c : UInt8} {d k p : Value} (h : Ph r t d k p) (hc : r[t]? = some c) (hd : isDig c = true) :
    ∃ dd kk : Int, d = .int .i64 dd ∧ k = .int .i64 kk ∧ Ph r (t + 1) (.int .i64 (10 * dd + (c.toNat : Int) - 48)) (.int .i64 (kk + 1)) p := by
  have hb := (isDig_iff c).1 hd
  cases h with
  | zero h =>
    refine ⟨_, _, rfl, rfl, ?_⟩
    have e := take_snoc' hc
    have := Ph.zero (r := r) (t := t + 1) (by rw [e]; exact all_snoc h hd)
    rw [e, dv_snoc] at this
    have e1 : ((10 * dv (r.take t) + (c.toNat - 48) : Nat) : Int) = 10 * (dv (r.take t) : Int) + (c.toNat : Int) - 48 := by omega
    rw [e1] at this
    exact this
  | one q h0 hq h1 h2 h3 h4 =>
    refine ⟨_, _, rfl, rfl, ?_⟩
    have e := drop_snoc hc hq
    have := Ph.one (r := r) (t := t + 1) q h0 (by omega) h1 h2 h3 (by rw [e]; exact all_snoc h4 hd)
    rw [e, ← List.append_assoc, dv_snoc] at this
    have e1 : ((10 * dv (r.take q ++ (r.drop (q + 1)).take (t - (q + 1))) + (c.toNat - 48) : Nat) : Int) = 10 * (dv (r.take q ++ (r.drop (q + 1)).take (t - (q + 1))) : Int) + (c.toNat : Int) - 48 := by omega
    have e2 : ((t + 1 : Nat) : Int) - 1 = (t : Int) - 1 + 1 := by omega
    rw [e1, e2] at this
    exact this
/-- what is told so far, bounded -/
theorem Ph.bound {r : List UInt8} {t : Nat} {d k p : Value} (h : Ph r t d k p) (ht : t ≤ 16) : ∃ dd kk pp : Int, d = .int .i64 dd ∧ k = .int .i64 kk ∧ p = .int .i64 pp ∧ 0 ≤ dd ∧ dd < 10000000000000000 ∧ 0 ≤ kk ∧ kk ≤ 16 ∧ -1 ≤ pp ∧ pp ≤ 16 ∧ (pp = -1 ∨ 2 ≤ pp) := by
  cases h with
  | zero h =>
    have := lst_bound h (n := t) (by simp; omega) ht
    exact ⟨_, _, _, rfl, rfl, rfl, by omega, by omega, by omega, by omega, by omega, by omega, Or.inl rfl⟩
  | one q h0 hq h1 h2 h3 h4 =>
    have := lst_bound (l := r.take q ++ (r.drop (q + 1)).take (t - (q + 1))) (by rw [List.all_append, h3, h4]; rfl) (n := t) (by simp; omega) ht
    exact ⟨_, _, _, rfl, rfl, rfl, by omega, by omega, by omega, by omega, by omega, by omega, Or.inr (by omega)⟩
/-- a byte that is no figure, where a point is not taken: no number -/
theorem Ph.bad {r : List UInt8} {t : Nat} {c : UInt8} {d k : Value} {pp : Int} (h : Ph r t d k (.int .i64 pp)) (hc : r[t]? = some c) (hd : isDig c = false) (hp : ¬ (c = 46 ∧ pp < 0 ∧ 1 ≤ t ∧ t + 1 < r.length)) : good r = false := by
  by_cases h46 : c = 46
  · subst h46
    cases h with
    | zero h =>
      rw [(good_at hc h).1]
      by_cases h1 : 1 ≤ t
      · by_cases h2 : t + 1 < r.length
        · exact absurd ⟨rfl, by omega, h1, h2⟩ hp
        · rw [decide_eq_false h2]; simp
      · rw [decide_eq_false h1]; simp
    | one q h0 hq h1 h2 h3 h4 =>
      rw [(good_at h2 h3).1]
      have : (r.drop (q + 1)).all isDig = false := by
        cases ha : (r.drop (q + 1)).all isDig with
        | false => rfl
        | true =>
          have hm : (46 : UInt8) ∈ r.drop (q + 1) := by
            refine List.mem_of_getElem? (i := t - (q + 1)) ?_
            rw [List.getElem?_drop, show q + 1 + (t - (q + 1)) = t by omega]; exact hc
          have := List.all_eq_true.1 ha _ hm
          rw [hd] at this; cases this
      rw [this]; simp
  · exact good_bad hc hd h46
/-- the point taken -/
theorem Ph.point {r : List UInt8} {t : Nat} {d k : Value} {pp : Int} (h : Ph r t d k (.int .i64 pp)) (hc : r[t]? = some 46) (hp : pp < 0) (h1 : 1 ≤ t) (h2 : t + 1 < r.length) : Ph r (t + 1) d k (.int .i64 ((t : Int) + 1)) := by
  cases h with
  | zero h =>
    have := Ph.one (r := r) (t := t + 1) t h1 (by omega) h2 hc h (by simp)
    rw [show t + 1 - (t + 1) = 0 by omega, List.take_zero, List.append_nil] at this
    have e2 : ((t + 1 : Nat) : Int) - 1 = (t : Int) := by omega
    rw [e2] at this
    exact this
  | one q h0 hq _ _ _ _ => omega
/-- the end -/
theorem Ph.done {r : List UInt8} {d k : Value} {pp : Int} (h : Ph r r.length d k (.int .i64 pp)) (hr : 1 ≤ r.length) :
    ∃ kk : Int, k = .int .i64 kk ∧ d = .int .i64 (dv (figs r) : Nat) ∧ good r = decide (kk ≤ 15) ∧ ((pp = -1 ∧ (tl r).tail.length = 0) ∨ (0 ≤ pp ∧ ((tl r).tail.length : Int) = r.length - pp)) := by
  cases h with
  | zero h =>
    rw [List.take_length] at h
    obtain ⟨g1, g2, g3⟩ := good_none h
    refine ⟨_, rfl, by rw [g2, List.take_length], ?_, Or.inl ⟨rfl, by rw [g3]; rfl⟩⟩
    rw [g1]
    have : r ≠ [] := List.length_pos_iff.1 (by omega)
    rw [decide_eq_true this, Bool.true_and]
    congr 1; apply propext; omega
  | one q h0 hq h1 h2 h3 h4 =>
    obtain ⟨g1, g2, g3⟩ := good_at h2 h3
    have e : (r.drop (q + 1)).take (r.length - (q + 1)) = r.drop (q + 1) := List.take_of_length_le (by simp)
    rw [e] at h4
    refine ⟨_, rfl, by rw [g2, e], ?_, Or.inr ⟨by omega, by rw [g3]; simp; omega⟩⟩
    rw [g1, h4, decide_eq_true h0, decide_eq_true h1]
    simp only [Bool.true_and]
    congr 1; apply propext; omega

end Go.Proofs.YtpbklllmplimaaaDoor.dec
