/- The numeral of a number is taken by ParseUint exactly if the number is from 0 to 10^9: the plain law. -/
import Derived.Test.YtpbklllmplimaaaDoorPu
namespace Go.Proofs.YtpbklllmplimaaaDoor.pu
open dec
set_option linter.unusedVariables false

theorem ofNat_dig {r : Nat} (h : r < 10) : (UInt8.ofNat (48 + r)).toNat = 48 + r := by
  rw [UInt8.toNat_ofNat']; exact Nat.mod_eq_of_lt (show 48 + r < 256 by omega)
theorem is_dig {r : Nat} (h : r < 10) : isDig (UInt8.ofNat (48 + r)) = true := (isDig_iff _).2 (by rw [ofNat_dig h]; omega)
theorem dec_dig (N : Nat) : (Lib.decDigits N).all isDig = true ∧ dv (Lib.decDigits N) = N := by
  induction N using Nat.strongRecOn with
  | ind N ih =>
    rw [Lib.decDigits]
    by_cases h : N < 10
    · rw [dif_pos h]
      refine ⟨by simp only [List.all_cons, List.all_nil, Bool.and_true]; exact is_dig h, ?_⟩
      have := dv_snoc [] (UInt8.ofNat (48 + N))
      rw [List.nil_append, ofNat_dig h, dv_nil] at this
      rw [this]; omega
    · rw [dif_neg h]
      obtain ⟨h1, h2⟩ := ih (N / 10) (by omega)
      have hr : N % 10 < 10 := Nat.mod_lt _ (by omega)
      refine ⟨all_snoc h1 (is_dig hr), ?_⟩
      rw [dv_snoc, h2, ofNat_dig hr]; omega
theorem nDigits_le : ∀ (k N : Nat), 1 ≤ k → N < 10 ^ k → Lib.nDigits N ≤ k
  | 0, N, h, _ => by omega
  | k + 1, N, h, hN => by
    by_cases h1 : N < 10
    · rw [Lib.nDigits_small h1]; omega
    · rw [Lib.nDigits_big h1]
      have hk : 1 ≤ k := by
        rcases Nat.eq_zero_or_pos k with rfl | hk
        · rw [Nat.pow_succ, Nat.pow_zero] at hN; omega
        · exact hk
      have := nDigits_le k (N / 10) hk (by rw [Nat.pow_succ] at hN; omega)
      omega
theorem dec_len {N : Nat} (h : N ≤ 1000000000) : (Lib.decDigits N).length ≤ 10 := by
  rw [Lib.decDigits_length]; exact nDigits_le 10 N (by omega) (by omega)
theorem dec_ne (N : Nat) : Lib.decDigits N ≠ [] := by
  intro h
  have h1 := Lib.decDigits_length N
  rw [h] at h1
  have := Lib.nDigits_pos N
  simp at h1; omega
theorem pu_dec {N : Nat} (h : N ≤ 1000000000) : puOk (Lib.decDigits N) = true ∧ puV (Lib.decDigits N) = N := by
  obtain ⟨h1, h2⟩ := dec_dig N
  have := pu_yes (all_good (dec_len h) h1 (by rw [h2]; exact h) (by rw [h2]))
  rw [h2] at this; exact this
theorem pu_dec_no {N : Nat} (h : 1000000000 < N) : puOk (Lib.decDigits N) = false ∧ puV (Lib.decDigits N) = 0 := pu_no (no_big (by rw [(dec_dig N).2]; exact h))
theorem pu_neg (l : List UInt8) : puOk (45 :: l) = false ∧ puV (45 :: l) = 0 := pu_no (no_dig (k := 0) (b := 45) rfl (by decide))
theorem itoa_ne (n : Int) : Lib.itoa n ≠ [] := by
  unfold Lib.itoa
  split
  · simp
  · exact dec_ne _
theorem pu_itoa (n : Int) : (0 ≤ n ∧ n ≤ 1000000000 ∧ puOk (Lib.itoa n) = true ∧ (puV (Lib.itoa n) : Int) = n) ∨ (n < 0 ∧ puOk (Lib.itoa n) = false ∧ (puV (Lib.itoa n) : Int) = 0) ∨ (1000000000 < n ∧ puOk (Lib.itoa n) = false ∧ (puV (Lib.itoa n) : Int) = 0) := by
  by_cases h : n < 0
  · have e : Lib.itoa n = 45 :: Lib.decDigits n.natAbs := by unfold Lib.itoa; rw [if_pos h]
    rw [e]
    obtain ⟨a, b⟩ := pu_neg (Lib.decDigits n.natAbs)
    exact Or.inr (Or.inl ⟨h, a, by rw [b]; rfl⟩)
  · have e : Lib.itoa n = Lib.decDigits n.toNat := by unfold Lib.itoa; rw [if_neg h]
    rw [e]
    by_cases h2 : n ≤ 1000000000
    · obtain ⟨a, b⟩ := pu_dec (N := n.toNat) (by omega)
      exact Or.inl ⟨by omega, h2, a, by rw [b]; omega⟩
    · obtain ⟨a, b⟩ := pu_dec_no (N := n.toNat) (by omega)
      exact Or.inr (Or.inr ⟨by omega, a, by rw [b]; rfl⟩)
end Go.Proofs.YtpbklllmplimaaaDoor.pu
