/- A single, split, is made again: the plain law. -/
import Derived.Test.YtpbklllmplimaaaDoorMk
import Derived.Test.YtpbklllmplimaaaDoorSplit
import Derived.Test.YtpbklllmplimaaaDoorFlRes
namespace Go.Proofs.YtpbklllmplimaaaDoor.same
open Go.RowKit Fl Ieee
set_option linter.unusedVariables false

theorem txL (x : Nat) (h : num S x = true) : sgnOk (signTx x) = true := by
  unfold signTx; rw [h]
  cases ng S x <;> simp [sgnOk]
theorem sgn_again {x : Nat} (hx : x < 2 ^ 32) (h : num S x = true) : sgnV (signTx x) (rg S x) = x := by
  have hx' : x < 2 ^ S.width := hx
  have hw := word_self S hx'
  unfold signTx; rw [h]
  have h0 : S.word false (rg S x) = rg S x := by simp [Format.word]
  cases hn : ng S x with
  | true =>
    have e : sgnV ⟨#[45]⟩ (rg S x) = Op.negFloat .f32 (rg S x) := by simp [sgnV]
    simp only [if_true]
    rw [e]
    have := neg_word .f32 false (rg_lt S x)
    rw [show (FloatKind.f32.format).word false (rg S x) = rg S x from h0] at this
    rw [this]
    rw [hn] at hw
    exact hw
  | false =>
    have e : sgnV ⟨#[43]⟩ (rg S x) = rg S x := by simp [sgnV]
    simp only [if_true, Bool.false_eq_true, if_false]
    rw [e]
    rw [hn, h0] at hw
    exact hw

theorem mk_again {x : Nat} {m e : Int} (hx : x < 2 ^ 32) (h : Split x m e true) : mkOk (signTx x) m e = true ∧ mkV (signTx x) m e = x := by
  have key : ∀ {m e : Int}, fin S x = true → inM m = true → inE e = true → mkR m e = rg S x → mkOk (signTx x) m e = true ∧ mkV (signTx x) m e = x := by
    intro m e hf h1 h2 h3
    have hn := num_of_fin hf
    have hok : mkOk (signTx x) m e = true := mkOk_good (txL x hn) h1 h2 (by rw [h3]; exact fin_iff.1 hf)
    refine ⟨hok, ?_⟩
    rw [mkV_yes hok, h3]
    exact sgn_again hx hn
  cases h with
  | zero hf h0 =>
    refine key hf (by decide) (by decide) ?_
    rw [h0]
    refine mg_inj (f := S) ?_
    rw [mkR_spec 0 (by omega) (by omega), mg_zero]; simp
  | yes hf h0 M j hM hj =>
    obtain ⟨b1, b2, b3⟩ := split_bounds hf h0 hM hj
    refine key hf (decide_eq_true ⟨by omega, by omega⟩) (decide_eq_true ⟨by omega, by omega⟩) ?_
    refine mg_inj (f := S) ?_
    rw [mkR_spec _ (by omega) (by omega)]
    have e1 : ((j : Int) - 180 + 149).toNat = j - 31 := by omega
    have e2 : (M : Int).toNat = M := by omega
    rw [e1, e2]
    refine Nat.eq_of_mul_eq_mul_right (Nat.two_pow_pos 31) ?_
    rw [Nat.mul_assoc, ← Nat.pow_add, Nat.sub_add_cancel b2]
    exact hj
theorem split_odd {x : Nat} {m e : Int} (h : Split x m e true) : (0 ≤ m ∧ m % 2 = 1) ∨ (m = 0 ∧ e = 0 ∧ rg S x = 0) := by
  cases h with
  | zero _ h0 => exact Or.inr ⟨rfl, rfl, h0⟩
  | yes _ _ M j hM _ => exact Or.inl ⟨by omega, by omega⟩
theorem split_no {x : Nat} {m e : Int} (h : Split x m e false) : m = 0 ∧ e = 0 ∧ fin S x = false := by
  cases h with
  | no h => exact ⟨rfl, rfl, h⟩
theorem split_fin {x : Nat} {m e : Int} (h : Split x m e true) : fin S x = true := by
  cases h with
  | zero h _ => exact h
  | yes h _ _ _ _ _ => exact h
theorem sub_self32 {x : Nat} (h : fin S x = false) : floatBits .sub .f32 x x = none := by
  cases hn : num S x with
  | false => exact arith_nan_l hn x
  | true =>
    have hi : rg S x = S.infRung := by
      have := num_iff.1 hn; unfold fin at h; simp only [decide_eq_false_iff_not] at h; omega
    have e1 := read_inf S (fine .f32).e hi
    show S.sub x x = none
    unfold Format.sub
    rw [e1]
    cases ng S x <;> rfl
theorem one_tx : signTx 1065353216 = ⟨#[43]⟩ := by
  unfold signTx
  rw [num_of_fin one32_fin, one32_ng]; rfl
end Go.Proofs.YtpbklllmplimaaaDoor.same
