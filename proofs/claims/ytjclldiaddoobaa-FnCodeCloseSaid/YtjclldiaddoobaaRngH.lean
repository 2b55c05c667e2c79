/- Half of a reading: its code. -/
import Derived.Test.YtjclldiaddoobaaRngL
namespace Go.Proofs.Ytjclldiaddoobaa.rng
open Go.RowKit base Fl same
set_option linter.unusedVariables false

theorem leB_held {x f : Nat} (hx : x < 2 ^ 32) (hn : num S x = true) (h : Held x f) : leB (amt x) f = true := by
  obtain ⟨a1, a2⟩ := amt_spec hx
  have hf : num S f = true := by rw [num_iff]; have := h.lt; omega
  have hk : key S f = (rg S f : Int) := by unfold key sg; rw [h.pos]; simp
  exact leB_iff.2 ⟨a1.trans hn, hf, by rw [a2 hn, hk]; have := h.le; omega⟩

theorem sgn_facts (s : Bool) {v v' : Nat} (h : v' ≤ v) (hv : v ≤ 32767) : sg s v' * sg s v' ≤ sg s v * sg s v ∧ ¬ (sg s v > 0 ∧ sg s v' < 0) ∧ ¬ (sg s v < 0 ∧ sg s v' > 0) ∧ -32767 ≤ sg s v ∧ sg s v ≤ 32767 ∧ -32767 ≤ sg s v' ∧ sg s v' ≤ 32767 ∧ sg s v * sg s v ≤ 1073676289 ∧ 0 ≤ sg s v' * sg s v' := by
  have e : ∀ u : Nat, sg s u * sg s u = ((u * u : Nat) : Int) := fun u => by cases s <;> simp [sg, Int.neg_mul_neg]
  have h1 : v' * v' ≤ v * v := Nat.mul_le_mul h h
  have h2 : v * v ≤ 32767 * 32767 := Nat.mul_le_mul hv hv
  rw [e, e]
  refine ⟨by omega, ?_, ?_, ?_, ?_, ?_, ?_, by omega, by omega⟩ <;> (unfold sg; split <;> omega)

theorem code_half {n : Nat} {F D U : Nat → Nat} {k x : Nat} (hg : goodB n F D U = true) (hk : k < n) (hx : x < 2 ^ 32) (hc : codeOk n F D U k x = true) :
    ∃ h, floatBits .quo .f32 x 1073741824 = some h ∧ h < 2 ^ 32 ∧ codeOk n F D U k h = true ∧
      ∃ (s : Bool) (v v' : Nat), codeV n F D U k x = sg s v ∧ codeV n F D U k h = sg s v' ∧ v' ≤ v ∧ v ≤ 32767 := by
  have hok := okAt_of hg hk
  have ho : overB n F D U k x = false := by unfold codeOk at hc; rw [hok] at hc; simpa using hc
  have hh := code_held hx hk hok ho
  obtain ⟨t1, t2, _⟩ := posw (show 1073741824 < S.infRung by rw [S_I]; omega)
  have hxI : rg S x < S.infRung := by have := hh.le; have := hh.lt; omega
  obtain ⟨r, e, R⟩ := div_fin (f := S) (fine .f32) (x := x) (y := 1073741824) hxI (by rw [t1, S_I]; omega) (by rw [t1]; omega)
  rw [t1, mg_two, dn_S] at R
  rw [t2, Bool.xor_false] at e
  have hr : r ≤ rg S x := R.le_of (by omega) (by rw [Nat.mul_comm (mg S (rg S x)), Nat.mul_assoc]; omega)
  have hmin : min r S.infRung = r := by omega
  have hrg : rg S (out S (ng S x) r) = r := by rw [out_rg, hmin]
  have hl : out S (ng S x) r < 2 ^ 32 := out_lt S _ _
  have hheld : Held (out S (ng S x) r) (F k) := ⟨by rw [hrg]; have := hh.le; omega, hh.lt, hh.ne, hh.pos⟩
  have hover : overB n F D U k (out S (ng S x) r) = false := by
    unfold overB
    rw [show ((k : Int).toNat) = k from by simp, leB_held hl (out_num _ _ _) hheld, hok]; rfl
  have hcode : codeOk n F D U k (out S (ng S x) r) = true := by unfold codeOk; rw [hok, hover]; rfl
  obtain ⟨r1, r2, ⟨R1, R2, _, _⟩, _, _, _, hc1, hb1⟩ := code_spec hh
  obtain ⟨s1, s2, ⟨T1, T2, _, _⟩, _, _, _, hc2, _⟩ := code_spec hheld
  rw [hrg] at T1
  have hpos := mg_pos (r := rg S (F k)) (by have := hh.ne; omega)
  have hle1 : s1 ≤ r1 := T1.le R1 hpos hpos (Nat.mul_le_mul_right _ (Nat.mul_le_mul_right _ (mg_le hr)))
  have hle2 : s2 ≤ r2 := T2.le R2 (Nat.two_pow_pos _) (Nat.two_pow_pos _) (Nat.mul_le_mul_right _ (Nat.mul_le_mul_right _ (mg_le hle1)))
  refine ⟨_, e, hl, hcode, ng S x, mg S r2 / 2 ^ 149, mg S s2 / 2 ^ 149, ?_, ?_, Nat.div_le_div_right (mg_le hle2), hb1⟩
  · unfold codeV; rw [hc, if_pos rfl, show ((k : Int).toNat) = k from by simp, hc1]
  · unfold codeV; rw [hcode, if_pos rfl, show ((k : Int).toNat) = k from by simp, hc2, out_ng]

theorem best_zero {n : Nat} {F D U : Nat → Nat} (hg : goodB n F D U = true) : best n F D U 0 = 0 := by
  have h1 : 1 ≤ n := (of_decide_eq_true hg).1.1
  obtain ⟨a1, _, _, a4, a5, a6, _⟩ := okA_facts ((of_decide_eq_true hg).2 0 (by omega)).1
  obtain ⟨z1, z2⟩ := amt_spec (x := 0) (by omega)
  have hz : num S 0 = true := num_zero _
  have := best_at (x := 0) hg (k := 0) (by omega) (fun j hj => absurd hj (by omega)) (leB_iff.2 ⟨z1.trans hz, a1, by rw [z2 hz, rg_zero]; omega⟩)
  simpa using this
end Go.Proofs.Ytjclldiaddoobaa.rng
