/- The text of a single, read back: the plain law. -/
import Derived.Test.YtpbklllmplimaaaDoorPsL
import Derived.Test.YtpbklllmplimaaaDoorAgain
namespace Go.Proofs.YtpbklllmplimaaaDoor.same
open Go.RowKit Fl base fmt pu dec
set_option linter.unusedVariables false

theorem sg1_mk (c : UInt8) (l : List UInt8) : sg1 ⟨(c :: l).toArray⟩ = ⟨#[c]⟩ := by
  have h : (sg1 ⟨(c :: l).toArray⟩).data.toList = [c] := by unfold sg1; rw [Lib.extract_data]; simp
  apply ByteArray.ext
  exact Array.toList_inj.1 (by rw [h])
theorem data_mk (l : List UInt8) : (⟨l.toArray⟩ : ByteArray).data.toList = l := by simp
theorem tls_mk (c : UInt8) (l : List UInt8) : tls ⟨(c :: l).toArray⟩ = l := by unfold tls; simp
theorem size_mk (l : List UInt8) : (⟨l.toArray⟩ : ByteArray).size = l.length := by show l.toArray.size = _; simp
theorem sgc_ne (x : Nat) : sgc x ≠ 110 := by unfold sgc; split <;> decide
theorem dig112 {l : List UInt8} (h : l.all isDig = true) : ∀ b ∈ l, b ≠ 112 := by
  intro b hb
  have h1 := (isDig_iff b).1 (List.all_eq_true.1 h b hb)
  rintro rfl
  have : (112 : UInt8).toNat = 112 := rfl
  omega
theorem p_app {a b : List UInt8} (h : ∀ x ∈ a, x ≠ 112) : pa (a ++ 112 :: b) = a ∧ pb (a ++ 112 :: b) = b := by
  have h1 := p_at (t := a ++ 112 :: b) (q := a.length) (by simp) (by rw [List.take_left]; exact h)
  rw [List.take_left] at h1
  refine ⟨h1.1, h1.2.trans ?_⟩
  rw [List.drop_append]
  simp
theorem itoa_n (N : Nat) : Lib.itoa (N : Int) = Lib.decDigits N := Lib.itoa_nonneg N
/-- the exponent, read back -/
theorem ex_again {e : Int} (e0 : -149 ≤ e) (e1 : e ≤ 127) : puOk (absB (Lib.itoa e)) = true ∧ exB (Lib.itoa e) = e := by
  by_cases h : e < 0
  · have h1 : Lib.itoa e = 45 :: Lib.decDigits e.natAbs := by unfold Lib.itoa; rw [if_pos h]
    have hn : ngB (Lib.itoa e) = true := by rw [h1, ng_cons]; rfl
    have ha : absB (Lib.itoa e) = Lib.decDigits e.natAbs := by unfold absB; rw [hn, h1]; rfl
    obtain ⟨a, b⟩ := pu_dec (N := e.natAbs) (by omega)
    unfold exB
    rw [hn, ha, a, b]
    exact ⟨rfl, by rw [if_pos rfl]; omega⟩
  · obtain ⟨N, rfl⟩ : ∃ N : Nat, e = N := ⟨e.toNat, by omega⟩
    have hn : ngB (Lib.itoa (N : Int)) = false := by
      rw [itoa_n]
      cases hd : Lib.decDigits N with
      | nil => rfl
      | cons c r =>
        rw [ng_cons]
        have := (dec_dig N).1
        rw [hd, List.all_cons, Bool.and_eq_true] at this
        have h1 := (isDig_iff c).1 this.1
        refine beq_eq_false_iff_ne.2 ?_
        rintro rfl
        have : (45 : UInt8).toNat = 45 := rfl
        omega
    have ha : absB (Lib.itoa (N : Int)) = Lib.decDigits N := by unfold absB; rw [hn, itoa_n]; rfl
    obtain ⟨a, b⟩ := pu_dec (N := N) (by omega)
    unfold exB
    rw [hn, ha, a, b]
    exact ⟨rfl, by rw [if_neg (by simp)]⟩
/-- a single's text, read: the single -/
theorem ps_again {x : Nat} {l : List UInt8} (hx : x < 2 ^ 32) (h : Fs x l) : (num S x = false ∧ l = [110, 97, 110]) ∨ (num S x = true ∧ Ps ⟨l.toArray⟩ x true ∧ ∃ r, l = sgc x :: r) := by
  have hfs := h
  cases h with
  | nan h => exact Or.inl ⟨h, rfl⟩
  | inf h hf =>
    refine Or.inr ⟨h, ?_, _, rfl⟩
    have hri : rg S x = 2139095040 := by
      have h1 := num_iff.1 h
      have h2 : ¬ rg S x < S.infRung := fun h => by rw [fin_iff.2 h] at hf; cases hf
      rw [S_I] at h1 h2; omega
    have h1 := Ps.inf (s := ⟨([sgc x, 105, 110, 102] : List UInt8).toArray⟩) (by rw [data_mk]; intro e; injection e with e _; exact sgc_ne x e) (by rw [size_mk]; simp) (tls_mk _ _)
    rw [sg1_mk, ← tx_sgc h, ← hri, sgn_again hx h, txL x h] at h1
    exact h1
  | zero hf h0 =>
    have h := num_of_fin hf
    refine Or.inr ⟨h, ?_, _, rfl⟩
    have h1 := Ps.zero (s := ⟨([sgc x, 48] : List UInt8).toArray⟩) (by rw [data_mk]; intro e; injection e with e _; exact sgc_ne x e) (by rw [size_mk]; simp) (tls_mk _ _)
    have h2 := sgn_again hx h
    rw [h0] at h2
    rw [sg1_mk, ← tx_sgc h, h2, txL x h] at h1
    exact h1
  | yes hf h0 m e hs =>
    have h := num_of_fin hf
    refine Or.inr ⟨h, ?_, _, rfl⟩
    obtain ⟨m0, m1, e0, e1⟩ := split_range hs
    obtain ⟨M, rfl⟩ : ∃ M : Nat, m = M := ⟨m.toNat, by omega⟩
    obtain ⟨d1, d2⟩ := dec_dig M
    obtain ⟨a1, a2⟩ := pu_dec (N := M) (by omega)
    obtain ⟨b1, b2⟩ := ex_again e0 e1
    obtain ⟨c1, c2⟩ := mk_again hx hs
    obtain ⟨p1, p2⟩ := p_app (a := Lib.itoa (M : Int)) (b := Lib.itoa e) (by rw [itoa_n]; exact dig112 d1)
    have ht := tls_mk (sgc x) (Lib.itoa (M : Int) ++ 112 :: Lib.itoa e)
    have hg := sg1_mk (sgc x) (Lib.itoa (M : Int) ++ 112 :: Lib.itoa e)
    rw [← tx_sgc h] at hg
    have hne := dec_ne M
    have hcv : coreV0 ⟨(sgc x :: (Lib.itoa (M : Int) ++ 112 :: Lib.itoa e)).toArray⟩ = x := by
      unfold coreV0; rw [ht, hg, p1, p2, b2, itoa_n, a2]; exact c2
    have hc := core_yes (s := ⟨(sgc x :: (Lib.itoa (M : Int) ++ 112 :: Lib.itoa e)).toArray⟩) (by rw [ht, p1, itoa_n]; exact a1) (by rw [ht, p2]; exact b1) (by rw [ht, hg, p1, p2, b2, itoa_n, a2]; exact c1) (by rw [hcv, data_mk]; exact hfs)
    rw [hcv] at hc
    refine Ps.core ?_ ?_ ?_ ?_ _ _ hc
    · rw [data_mk]; intro e; injection e with e _; exact sgc_ne x e
    · rw [size_mk]; simp; omega
    · rw [ht, itoa_n]
      cases hd : Lib.decDigits M with
      | nil => exact absurd hd hne
      | cons c r =>
        rw [hd, List.all_cons, Bool.and_eq_true] at d1
        have h1 := (isDig_iff c).1 d1.1
        intro e
        injection e with e _
        rw [e] at h1
        have : (105 : UInt8).toNat = 105 := rfl
        omega
    · rw [ht]
      intro e
      have := congrArg List.length e
      rw [itoa_n] at this
      cases hd : Lib.decDigits M with
      | nil => exact absurd hd hne
      | cons c r => rw [hd] at this; simp at this
end Go.Proofs.YtpbklllmplimaaaDoor.same
