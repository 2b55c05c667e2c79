/- Plain laws of codes and of rests. -/
import Derived.Test.YtjclldiaddoobaaRngT
import Derived.Test.YtjclldiaddoobaaRngV
import Derived.Test.YtjclldiaddoobaaRngB
import Derived.Test.YtjclldiaddoobaaRngP
namespace Go.Proofs.Ytjclldiaddoobaa.rng
open Go.RowKit base Fl same
set_option linter.unusedVariables false

theorem leB_amt {x y f : Nat} (hx : x < 2 ^ 32) (hy : y < 2 ^ 32) (hn : num S x = num S y) (hr : rg S x = rg S y) : leB (amt x) f = leB (amt y) f := by
  obtain ⟨a1, a2⟩ := amt_spec hx
  obtain ⟨b1, b2⟩ := amt_spec hy
  cases h : leB (amt y) f with
  | true =>
    obtain ⟨h1, h2, h3⟩ := leB_iff.1 h
    have n1 : num S y = true := b1.symm.trans h1
    have n2 : num S x = true := hn.trans n1
    rw [b2 n1] at h3
    exact leB_iff.2 ⟨a1.trans n2, h2, by rw [a2 n2, hr]; exact h3⟩
  | false =>
    cases h' : leB (amt x) f with
    | false => rfl
    | true =>
      obtain ⟨h1, h2, h3⟩ := leB_iff.1 h'
      have n1 : num S x = true := a1.symm.trans h1
      have n2 : num S y = true := hn.symm.trans n1
      rw [a2 n1] at h3
      have := leB_iff.2 ⟨b1.trans n2, h2, by rw [b2 n2, ← hr]; exact h3⟩
      rw [h] at this; cases this

theorem sg_not (s : Bool) (n : Nat) : sg (!s) n = -sg s n := by cases s <;> simp [sg]

/-- the sign turned -/
theorem code_neg {n : Nat} {F D U : Nat → Nat} {k x : Nat} (hg : goodB n F D U = true) (hk : k < n) (hx : x < 2 ^ 32) :
    codeOk n F D U k (Op.negFloat .f32 x) = codeOk n F D U k x ∧ codeOk n F D U k x = !overB n F D U k x ∧ codeV n F D U k (Op.negFloat .f32 x) = -codeV n F D U k x ∧ -32767 ≤ codeV n F D U k x ∧ codeV n F D U k x ≤ 32767 := by
  have hw : x < 2 ^ FloatKind.f32.format.width := hx
  have hx' : Op.negFloat .f32 x < 2 ^ 32 := negFloat_lt .f32 hw
  have hok := okAt_of hg hk
  have e1 : overB n F D U k (Op.negFloat .f32 x) = overB n F D U k x := by
    unfold overB
    rw [leB_amt (f := F (k : Int).toNat) hx' hx (num_neg .f32 hw) (rg_neg .f32 hw)]
  have e2 : codeOk n F D U k (Op.negFloat .f32 x) = codeOk n F D U k x := by unfold codeOk; rw [e1]
  have e3 : codeOk n F D U k x = !overB n F D U k x := by unfold codeOk; rw [hok]; rfl
  refine ⟨e2, e3, ?_⟩
  unfold codeV
  rw [e2]
  cases h : codeOk n F D U k x with
  | false => exact ⟨rfl, by simp, by simp⟩
  | true =>
    simp only [if_true]
    have ho : overB n F D U k x = false := by rw [h] at e3; simpa using e3.symm
    have h1 := code_held hx hk hok ho
    have h2 := code_held hx' hk hok (e1.trans ho)
    obtain ⟨r, r2, ⟨R1, R2, _, _⟩, _, _, _, hc, hb⟩ := code_spec h1
    obtain ⟨s, s2, ⟨T1, T2, _, _⟩, _, _, _, hc', _⟩ := code_spec h2
    rw [show rg S (Op.negFloat .f32 x) = rg S x from rg_neg .f32 hw] at T1
    have hpos := mg_pos (r := rg S (F k)) (by have := h1.ne; omega)
    have hrs : s = r := T1.unique R1 hpos hpos rfl
    subst hrs
    have hrs2 : s2 = r2 := T2.unique R2 (Nat.two_pow_pos _) (Nat.two_pow_pos _) rfl
    subst hrs2
    rw [show ((k : Int).toNat) = k from by simp, hc, hc', show ng S (Op.negFloat .f32 x) = !ng S x from ng_neg .f32 hw, sg_not]
    refine ⟨rfl, ?_, ?_⟩ <;> (unfold sg; split <;> omega)

/-- which way a reading goes -/
theorem rest_up {n : Nat} {F D U : Nat → Nat} {x a : Nat} (h : goodB n F D U = true) (hu : isUp n U x a) : ∀ m, a < steps n D U x (m + 1) a ∧ steps n D U x (m + 1) a < n ∧ isUp n U x (steps n D U x (m + 1) a - 1)
  | 0 => by
    have e : steps n D U x 1 a = a + 1 := by show stepN n D U a x = _; rw [stepN_eq, if_pos hu]
    rw [e]; exact ⟨by omega, hu.1, by simpa using hu⟩
  | m + 1 => by
    obtain ⟨h1, h2, h3⟩ := rest_up h hu m
    have e : steps n D U x (m + 1 + 1) a = stepN n D U (steps n D U x (m + 1) a) x := rfl
    rw [e]
    generalize steps n D U x (m + 1) a = j at *
    rw [stepN_eq]
    by_cases hj : isUp n U x j
    · rw [if_pos hj]; exact ⟨by omega, hj.1, by simpa using hj⟩
    · rw [if_neg hj]
      have hd : ¬ isDn D x j := fun hd => by
        have := h3.1
        exact no_turn h (k := j - 1) (by omega) h3.2 (by rw [show j - 1 + 1 = j by omega]; exact hd.2)
      rw [if_neg hd]; exact ⟨h1, h2, h3⟩
theorem rest_dn {n : Nat} {F D U : Nat → Nat} {x a : Nat} (h : goodB n F D U = true) (ha : a < n) (hu : ¬ isUp n U x a) (hd : isDn D x a) : ∀ m, steps n D U x (m + 1) a < a ∧ isDn D x (steps n D U x (m + 1) a + 1)
  | 0 => by
    have e : steps n D U x 1 a = a - 1 := by show stepN n D U a x = _; rw [stepN_eq, if_neg hu, if_pos hd]
    have := hd.1
    rw [e]; exact ⟨by omega, by rw [show a - 1 + 1 = a by omega]; exact hd⟩
  | m + 1 => by
    obtain ⟨h1, h3⟩ := rest_dn h ha hu hd m
    have e : steps n D U x (m + 1 + 1) a = stepN n D U (steps n D U x (m + 1) a) x := rfl
    rw [e]
    generalize steps n D U x (m + 1) a = j at *
    rw [stepN_eq]
    have hnu : ¬ isUp n U x j := fun hj => no_turn h (k := j) hj.1 hj.2 h3.2
    rw [if_neg hnu]
    by_cases hj : isDn D x j
    · have := hj.1
      rw [if_pos hj]; exact ⟨by omega, by rw [show j - 1 + 1 = j by omega]; exact hj⟩
    · rw [if_neg hj]; exact ⟨h1, h3⟩
theorem rest_way {n : Nat} {F D U : Nat → Nat} {x a r : Nat} (h : goodB n F D U = true) (ha : a < n) (hr : Rest n D U x a r) : (r > a ↔ stepN n D U a x > a) ∧ (r < a ↔ stepN n D U a x < a) := by
  obtain ⟨⟨m, hm⟩, hfix⟩ := hr
  by_cases hu : isUp n U x a
  · have e : stepN n D U a x = a + 1 := by rw [stepN_eq, if_pos hu]
    cases m with
    | zero =>
      have : a = r := hm
      subst this
      omega
    | succ m =>
      have := (rest_up h hu m).1
      rw [hm] at this
      omega
  · by_cases hd : isDn D x a
    · have e : stepN n D U a x = a - 1 := by rw [stepN_eq, if_neg hu, if_pos hd]
      have h0 := hd.1
      cases m with
      | zero =>
        have : a = r := hm
        subst this
        omega
      | succ m =>
        have := (rest_dn h ha hu hd m).1
        rw [hm] at this
        omega
    · have e : stepN n D U a x = a := by rw [stepN_eq, if_neg hu, if_neg hd]
      have := steps_rest e m
      rw [hm] at this
      omega
end Go.Proofs.Ytjclldiaddoobaa.rng
