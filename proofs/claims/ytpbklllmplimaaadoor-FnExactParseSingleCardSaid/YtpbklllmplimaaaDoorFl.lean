/- Floats after IEEE 754: what a result's rung is (rounding to the nearest, ties to even), how two words stand to each other, and what the four operations give. -/
import Ieee.Arith
import Derived.Laws.FloatArith
namespace Go.Proofs.YtpbklllmplimaaaDoor.Fl
open Ieee

/-- the scaled magnitude of a rung: how many times 2 ^ leastPlace -/
def mg (f : Format) (r : Nat) : Nat :=
  if r < f.binade then r else (f.binade + r % f.binade) * 2 ^ (r / f.binade - 1)

theorem binade_pos (f : Format) : 0 < f.binade := Nat.two_pow_pos _

theorem mg_succ (f : Format) (r : Nat) : mg f (r + 1) = mg f r + 2 ^ (r / f.binade - 1) := by
  have hB := binade_pos f
  generalize hb : f.binade = B at *
  unfold mg
  rw [hb]
  have hdm := Nat.div_add_mod r B
  have hm := Nat.mod_lt r hB
  generalize hq : r / B = q at *
  generalize ht : r % B = t at *
  by_cases h0 : r < B
  · have hq0 : q = 0 := by rw [← hq]; exact Nat.div_eq_of_lt h0
    subst hq0
    rw [if_pos h0]
    by_cases h1 : r + 1 < B
    · rw [if_pos h1]
    · have : r + 1 = B := by omega
      rw [if_neg h1, this, Nat.mod_self, Nat.div_self hB]; simp
  · have hq1 : 1 ≤ q := by rw [← hq]; exact (Nat.one_le_div_iff hB).2 (by omega)
    obtain ⟨k, rfl⟩ : ∃ k, q = k + 1 := ⟨q - 1, by omega⟩
    rw [if_neg h0, if_neg (by omega)]
    by_cases h1 : t + 1 < B
    · have e1 : (r + 1) / B = k + 1 := by
        rw [Nat.div_eq_iff hB]; rw [Nat.mul_comm] at hdm; constructor <;> omega
      have e2 : (r + 1) % B = t + 1 := by
        have := Nat.div_add_mod (r + 1) B; rw [e1] at this; omega
      rw [e1, e2, Nat.add_sub_cancel, ← Nat.add_assoc, Nat.add_mul, Nat.one_mul]
    · have ht' : t + 1 = B := by omega
      have e1 : (r + 1) / B = k + 2 := by
        rw [Nat.div_eq_iff hB]
        have : B * (k + 1) + B = (k + 2) * B := by rw [Nat.mul_comm, ← Nat.succ_mul]
        constructor <;> omega
      have e2 : (r + 1) % B = 0 := by
        have := Nat.div_add_mod (r + 1) B
        rw [e1] at this
        have h3 : B * (k + 1) + B = B * (k + 2) := by rw [← Nat.mul_succ]
        omega
      rw [e1, e2, Nat.add_sub_cancel, show k + 2 - 1 = k + 1 from rfl, Nat.add_zero, Nat.pow_succ]
      have : B * (2 ^ k * 2) = (B + B) * 2 ^ k := by rw [Nat.mul_comm (2 ^ k), ← Nat.mul_assoc]; congr 1; omega
      rw [this]
      have h5 : (B + B) = (B + t) + 1 := by omega
      rw [h5, Nat.add_mul, Nat.one_mul]

theorem mg_zero (f : Format) : mg f 0 = 0 := by simp [mg, binade_pos]

theorem mg_lt_succ (f : Format) (r : Nat) : mg f r < mg f (r + 1) := by
  rw [mg_succ]; exact Nat.lt_add_of_pos_right (Nat.two_pow_pos _)

theorem mg_lt {f : Format} {r s : Nat} (h : r < s) : mg f r < mg f s := by
  induction s with
  | zero => omega
  | succ s ih =>
    by_cases e : r = s
    · subst e; exact mg_lt_succ f r
    · exact Nat.lt_trans (ih (by omega)) (mg_lt_succ f s)

theorem mg_le {f : Format} {r s : Nat} (h : r ≤ s) : mg f r ≤ mg f s := by
  by_cases e : r = s
  · subst e; exact Nat.le_refl _
  · exact Nat.le_of_lt (mg_lt (by omega))

theorem mg_lt_iff {f : Format} {r s : Nat} : mg f r < mg f s ↔ r < s :=
  ⟨fun h => by by_cases e : r < s; exact e; have := mg_le (f := f) (show s ≤ r by omega); omega, mg_lt⟩

theorem mg_le_iff {f : Format} {r s : Nat} : mg f r ≤ mg f s ↔ r ≤ s :=
  ⟨fun h => by by_cases e : r ≤ s; exact e; have := mg_lt (f := f) (show s < r by omega); omega, mg_le⟩

theorem mg_inj {f : Format} {r s : Nat} (h : mg f r = mg f s) : r = s := by
  have h1 := (mg_le_iff (f := f) (r := r) (s := s)).1 (by omega)
  have h2 := (mg_le_iff (f := f) (r := s) (s := r)).1 (by omega)
  omega

/-- the rung of kept digits above a place -/
theorem mg_kept (f : Format) (d c : Nat) (h : c ≤ 2 * f.binade) (h' : d = 0 ∨ f.binade ≤ c) : mg f (d * f.binade + c) = c * 2 ^ d := by
  have hB := binade_pos f
  unfold mg
  generalize f.binade = B at *
  by_cases h0 : d * B + c < B
  · rw [if_pos h0]
    have : d = 0 := by
      rcases h' with h' | h'
      · exact h'
      · have := Nat.zero_le (d * B); omega
    subst this; simp
  · rw [if_neg h0]
    by_cases h2 : c = 2 * B
    · subst h2
      have e : d * B + 2 * B = (d + 2) * B := by rw [Nat.add_mul]
      rw [e, Nat.mul_mod_left, Nat.mul_div_cancel _ hB, Nat.add_zero, show d + 2 - 1 = d + 1 from rfl, Nat.pow_succ]
      rw [Nat.mul_comm (2 ^ d), ← Nat.mul_assoc, Nat.mul_comm B]
    · have hc : B ≤ c := by
        rcases h' with h' | h'
        · subst h'; omega
        · exact h'
      obtain ⟨t, rfl⟩ : ∃ t, c = B + t := ⟨c - B, by omega⟩
      have e : d * B + (B + t) = t + (d + 1) * B := by rw [Nat.add_mul, Nat.one_mul]; omega
      rw [e, Nat.add_mul_mod_self_right, Nat.add_mul_div_right _ _ hB, Nat.mod_eq_of_lt (by omega), Nat.div_eq_of_lt (by omega), Nat.zero_add, Nat.add_sub_cancel]

/-- r is the rung to which the value N / D (in units of the least place) rounds: to the nearest, ties to even -/
structure Rnd (f : Format) (N D r : Nat) : Prop where
  up : 2 * N ≤ D * (mg f r + mg f (r + 1))
  upTie : 2 * N = D * (mg f r + mg f (r + 1)) → r % 2 = 0
  down : ∀ s, r = s + 1 → D * (mg f s + mg f r) ≤ 2 * N
  downTie : ∀ s, r = s + 1 → 2 * N = D * (mg f s + mg f r) → r % 2 = 0

theorem Rnd.le {f : Format} {N D r M E s : Nat} (h : Rnd f N D r) (h' : Rnd f M E s) (hD : 0 < D) (hE : 0 < E) (hle : N * E ≤ M * D) : r ≤ s := by
  by_cases hs : r ≤ s
  · exact hs
  exfalso
  obtain ⟨k, rfl⟩ : ∃ k, r = k + 1 := ⟨r - 1, by omega⟩
  have hk : s ≤ k := by omega
  have h1 := h.down k rfl
  have h2 := h'.up
  have m1 := mg_le (f := f) hk
  have m2 := mg_le (f := f) (show s + 1 ≤ k + 1 by omega)
  -- E * D * (mg k + mg (k+1)) ≤ E * 2N ≤ D * 2M ≤ D * E * (mg s + mg (s+1))
  have a1 : E * (D * (mg f k + mg f (k + 1))) ≤ E * (2 * N) := Nat.mul_le_mul_left _ h1
  have a2 : D * (2 * M) ≤ D * (E * (mg f s + mg f (s + 1))) := Nat.mul_le_mul_left _ h2
  have a3 : E * (2 * N) ≤ D * (2 * M) := by
    have e1 : E * (2 * N) = 2 * (N * E) := by rw [Nat.mul_left_comm, Nat.mul_comm E]
    have e2 : D * (2 * M) = 2 * (M * D) := by rw [Nat.mul_left_comm, Nat.mul_comm D]
    omega
  have a4 : D * (E * (mg f s + mg f (s + 1))) ≤ D * (E * (mg f k + mg f (k + 1))) := Nat.mul_le_mul_left _ (Nat.mul_le_mul_left _ (by omega))
  have a5 : E * (D * (mg f k + mg f (k + 1))) = D * (E * (mg f k + mg f (k + 1))) := Nat.mul_left_comm ..
  have b1 : E * (D * (mg f k + mg f (k + 1))) = E * (2 * N) := by omega
  have b2 : D * (2 * M) = D * (E * (mg f s + mg f (s + 1))) := by omega
  have b3 : D * (E * (mg f s + mg f (s + 1))) = D * (E * (mg f k + mg f (k + 1))) := by omega
  have c1 := Nat.eq_of_mul_eq_mul_left hE b1
  have c2 := Nat.eq_of_mul_eq_mul_left hD b2
  have c3 := Nat.eq_of_mul_eq_mul_left hE (Nat.eq_of_mul_eq_mul_left hD b3)
  have c4 : mg f s = mg f k := by omega
  have c5 := mg_inj c4
  subst c5
  have t1 := h.downTie s rfl c1.symm
  have t2 := h'.upTie c2
  omega

theorem Rnd.unique {f : Format} {N D r M E s : Nat} (h : Rnd f N D r) (h' : Rnd f M E s) (hD : 0 < D) (hE : 0 < E) (he : N * E = M * D) : r = s :=
  Nat.le_antisymm (h.le h' hD hE (by omega)) (h'.le h hE hD (by omega))

/-- what is a rung's magnitude rounds to it -/
theorem Rnd.exact (f : Format) (D r : Nat) (hD : 0 < D) : Rnd f (D * mg f r) D r := by
  have h1 := mg_lt_succ f r
  have e : 2 * (D * mg f r) = D * (mg f r + mg f r) := by rw [← Nat.mul_left_comm]; congr 1; omega
  refine ⟨?_, ?_, ?_, ?_⟩
  · rw [e]; exact Nat.mul_le_mul_left _ (by omega)
  · intro h; rw [e] at h; have := Nat.eq_of_mul_eq_mul_left hD h; omega
  · rintro s rfl; rw [e]; have := mg_lt_succ f s; exact Nat.mul_le_mul_left _ (by omega)
  · rintro s rfl h; rw [e] at h; have := Nat.eq_of_mul_eq_mul_left hD h; have := mg_lt_succ f s; omega

/-- the ratio alone counts -/
theorem Rnd.scale {f : Format} {N D r : Nat} (h : Rnd f N D r) {M E : Nat} (hD : 0 < D) (hE : 0 < E) (he : N * E = M * D) : Rnd f M E r := by
  have key : ∀ x : Nat, (E * x ≤ 2 * M ↔ D * x ≤ 2 * N) ∧ (2 * M ≤ E * x ↔ 2 * N ≤ D * x) := by
    intro x
    have e1 : D * (2 * M) = E * (2 * N) := by
      rw [Nat.mul_left_comm, Nat.mul_left_comm E, Nat.mul_comm D, ← he, Nat.mul_comm N]
    have e2 : D * (E * x) = E * (D * x) := Nat.mul_left_comm ..
    refine ⟨⟨fun h => ?_, fun h => ?_⟩, fun h => ?_, fun h => ?_⟩
    · exact Nat.le_of_mul_le_mul_left (show E * (D * x) ≤ E * (2 * N) by rw [← e1, ← e2]; exact Nat.mul_le_mul_left D h) hE
    · exact Nat.le_of_mul_le_mul_left (show D * (E * x) ≤ D * (2 * M) by rw [e1, e2]; exact Nat.mul_le_mul_left E h) hD
    · exact Nat.le_of_mul_le_mul_left (show E * (2 * N) ≤ E * (D * x) by rw [← e1, ← e2]; exact Nat.mul_le_mul_left D h) hE
    · exact Nat.le_of_mul_le_mul_left (show D * (2 * M) ≤ D * (E * x) by rw [e1, e2]; exact Nat.mul_le_mul_left E h) hD
  refine ⟨(key _).2.2 h.up, fun t => h.upTie ?_, fun s hs => (key _).1.2 (h.down s hs), fun s hs t => h.downTie s hs ?_⟩
  · exact Nat.le_antisymm ((key _).2.1 (by omega)) ((key _).1.1 (by omega))
  · exact Nat.le_antisymm ((key _).2.1 (by omega)) ((key _).1.1 (by omega))

/-- between two rungs' magnitudes -/
theorem Rnd.le_of {f : Format} {N D r s : Nat} (h : Rnd f N D r) (hD : 0 < D) (hle : N ≤ D * mg f s) : r ≤ s :=
  h.le (Rnd.exact f 1 s (by omega)) hD (by omega) (by rw [Nat.mul_one, Nat.one_mul, Nat.mul_comm]; exact hle)

theorem Rnd.ge_of {f : Format} {N D r s : Nat} (h : Rnd f N D r) (hD : 0 < D) (hle : D * mg f s ≤ N) : s ≤ r :=
  (Rnd.exact f 1 s (by omega)).le h (by omega) hD (by rw [Nat.mul_one, Nat.one_mul, Nat.mul_comm]; exact hle)

theorem Rnd.eq_of {f : Format} {N D r s : Nat} (h : Rnd f N D r) (hD : 0 < D) (he : N = D * mg f s) : r = s :=
  Nat.le_antisymm (h.le_of hD (by omega)) (h.ge_of hD (by omega))

/-- cutting to the nearest, ties to even -/
theorem cut_spec (neg : Bool) (n b : Nat) : 2 * n ≤ 2 * (Toward.even.cut neg n b * 2 ^ b) + 2 ^ b ∧ 2 * (Toward.even.cut neg n b * 2 ^ b) ≤ 2 * n + 2 ^ b ∧
    (2 * n = 2 * (Toward.even.cut neg n b * 2 ^ b) + 2 ^ b → Toward.even.cut neg n b % 2 = 0) ∧ (2 * (Toward.even.cut neg n b * 2 ^ b) = 2 * n + 2 ^ b → Toward.even.cut neg n b % 2 = 0) := by
  unfold Toward.cut
  simp only [Nat.shiftLeft_eq, Nat.one_mul]
  by_cases hb : b ≤ n.log2 + 2
  · rw [Nat.min_eq_left hb]
    have hp : 0 < 2 ^ b := Nat.two_pow_pos _
    generalize 2 ^ b = g at *
    have hdm := Nat.div_add_mod n g
    have hm := Nat.mod_lt n hp
    generalize n / g = q at *
    generalize n % g = t at *
    by_cases h1 : g < 2 * t
    · simp only [h1, decide_true, Bool.true_or, Bool.toNat_true]
      have e : (q + 1) * g = g * q + g := by rw [Nat.add_mul, Nat.one_mul, Nat.mul_comm]
      rw [e]
      refine ⟨by omega, by omega, by omega, by omega⟩
    · by_cases h2 : g = 2 * t
      · have h1' : decide (g < 2 * t) = false := by simp; omega
        have h2' : (g == 2 * t) = true := by simp [h2]
        rw [h1', h2', Bool.false_or, Bool.true_and]
        by_cases h3 : q % 2 = 1
        · simp only [h3, beq_self_eq_true, Bool.toNat_true]
          have e : (q + 1) * g = g * q + g := by rw [Nat.add_mul, Nat.one_mul, Nat.mul_comm]
          rw [e]
          refine ⟨by omega, by omega, by omega, by omega⟩
        · have : (q % 2 == 1) = false := by simp; omega
          simp only [this, Bool.toNat_false, Nat.add_zero]
          have e : q * g = g * q := Nat.mul_comm ..
          rw [e]
          refine ⟨by omega, by omega, by omega, by omega⟩
      · have h1' : decide (g < 2 * t) = false := by simp; omega
        have h2' : (g == 2 * t) = false := by simp [h2]
        simp only [h1', h2', Bool.false_or, Bool.false_and, Bool.toNat_false, Nat.add_zero]
        have e : q * g = g * q := Nat.mul_comm ..
        rw [e]
        refine ⟨by omega, by omega, by omega, by omega⟩
  · rw [Nat.min_eq_right (by omega)]
    have hn : n < 2 ^ (n.log2 + 1) := Nat.lt_log2_self
    have hp : 2 ^ (n.log2 + 2) = 2 * 2 ^ (n.log2 + 1) := by rw [Nat.pow_succ, Nat.mul_comm]
    have hle : 2 ^ (n.log2 + 2) < 2 ^ b := Nat.pow_lt_pow_right (by omega) (by omega)
    rw [Nat.div_eq_of_lt (by omega), Nat.mod_eq_of_lt (by omega)]
    have h1' : decide (2 ^ (n.log2 + 2) < 2 * n) = false := by simp; omega
    have h2' : (2 ^ (n.log2 + 2) == 2 * n) = false := by simp; omega
    simp only [h1', h2', Bool.false_or, Bool.false_and, Bool.toNat_false, Nat.add_zero, Nat.zero_mul]
    refine ⟨by omega, by omega, by omega, by omega⟩

theorem rnd_kept (f : Format) (hp : 1 ≤ f.fractionBits) (n P d c : Nat) (hPp : 0 < P) (hn : n < 2 * f.binade * P) (hd : d = 0 ∨ f.binade * P ≤ n)
    (c1 : 2 * n ≤ 2 * (c * P) + P) (c2 : 2 * (c * P) ≤ 2 * n + P) (c3 : 2 * n = 2 * (c * P) + P → c % 2 = 0) (c4 : 2 * (c * P) = 2 * n + P → c % 2 = 0) :
    Rnd f (n * 2 ^ d) P (d * f.binade + c) := by
  have hB := binade_pos f
  have hBe : f.binade % 2 = 0 := by
    unfold Format.binade
    obtain ⟨k, hk⟩ : ∃ k, f.fractionBits = k + 1 := ⟨f.fractionBits - 1, by omega⟩
    rw [hk, Nat.pow_succ]; omega
  have hQp : 0 < 2 ^ d := Nat.two_pow_pos _
  have hc2 : c ≤ 2 * f.binade := by
    have h1 : 2 * (c * P) < (4 * f.binade + 1) * P := by
      rw [Nat.add_mul, Nat.one_mul, show 4 * f.binade * P = 2 * (2 * f.binade * P) by rw [Nat.mul_assoc, Nat.mul_assoc, ← Nat.mul_assoc 2 2]]
      omega
    rw [← Nat.mul_assoc] at h1
    have := Nat.lt_of_mul_lt_mul_right h1
    omega
  have hcB : d = 0 ∨ f.binade ≤ c := by
    rcases hd with hd | hd
    · exact Or.inl hd
    · right
      have h1 : (2 * f.binade) * P ≤ (2 * c + 1) * P := by
        rw [Nat.add_mul, Nat.one_mul, Nat.mul_assoc, Nat.mul_assoc]; omega
      have := Nat.le_of_mul_le_mul_right h1 hPp
      omega
  have hmg := mg_kept f d c hc2 hcB
  have hpar : (d * f.binade + c) % 2 = 0 ↔ c % 2 = 0 := by
    have : (d * f.binade) % 2 = 0 := by rw [Nat.mul_mod, hBe]; simp
    omega
  have hK : 2 ^ d ≤ 2 ^ ((d * f.binade + c) / f.binade - 1) := by
    rcases hcB with h | h
    · subst h; exact Nat.one_le_two_pow
    · apply Nat.pow_le_pow_right (by omega)
      have : d + 1 ≤ (d * f.binade + c) / f.binade := by
        rw [Nat.le_div_iff_mul_le hB, Nat.add_mul, Nat.one_mul]; omega
      omega
  have hPK := Nat.mul_le_mul_left (P) hK
  have m1 := Nat.mul_le_mul_right (2 ^ d) c1
  have m2 := Nat.mul_le_mul_right (2 ^ d) c2
  refine ⟨?_, ?_, ?_, ?_⟩
  · rw [mg_succ, hmg]
    generalize 2 ^ ((d * f.binade + c) / f.binade - 1) = K at *
    generalize 2 ^ d = Q at *
    grind
  · intro he
    rw [mg_succ, hmg] at he
    rw [hpar]
    apply c3
    generalize 2 ^ ((d * f.binade + c) / f.binade - 1) = K at *
    generalize 2 ^ d = Q at *
    refine Nat.eq_of_mul_eq_mul_right hQp (Nat.le_antisymm m1 ?_)
    grind
  · intro s hs
    have hms := mg_succ f s
    rw [← hs, hmg] at hms
    rw [hs, ← hs, hmg]
    by_cases hcase : f.binade + 1 ≤ c ∨ d = 0
    · have hk : 2 ^ d ≤ 2 ^ (s / f.binade - 1) := by
        rcases hcase with h | h
        · apply Nat.pow_le_pow_right (by omega)
          have : d + 1 ≤ s / f.binade := by
            rw [Nat.le_div_iff_mul_le hB, Nat.add_mul, Nat.one_mul]; omega
          omega
        · subst h; exact Nat.one_le_two_pow
      have hPk := Nat.mul_le_mul_left (P) hk
      have hms' : P * (c * 2 ^ d) = P * (mg f s + 2 ^ (s / f.binade - 1)) := by rw [hms]
      generalize 2 ^ (s / f.binade - 1) = K at *
      generalize 2 ^ d = Q at *
      generalize mg f s = M at *
      grind
    · have hcB' : c = f.binade := by rcases hcB with h | h <;> omega
      have hn' : f.binade * P ≤ n := by rcases hd with h | h; omega; exact h
      have m3 := Nat.mul_le_mul_right (2 ^ d) hn'
      have hle : mg f s ≤ c * 2 ^ d := by rw [hms]; exact Nat.le_add_right _ _
      have m4 := Nat.mul_le_mul_left (P) hle
      rw [hcB'] at m4 ⊢
      generalize 2 ^ d = Q at *
      generalize mg f s = M at *
      grind
  · intro s hs he
    have hms := mg_succ f s
    rw [← hs, hmg] at hms
    rw [hs, ← hs, hmg] at he
    rw [hpar]
    by_cases hcase : f.binade + 1 ≤ c ∨ d = 0
    · have hk : 2 ^ d ≤ 2 ^ (s / f.binade - 1) := by
        rcases hcase with h | h
        · apply Nat.pow_le_pow_right (by omega)
          have : d + 1 ≤ s / f.binade := by
            rw [Nat.le_div_iff_mul_le hB, Nat.add_mul, Nat.one_mul]; omega
          omega
        · subst h; exact Nat.one_le_two_pow
      have hPk := Nat.mul_le_mul_left (P) hk
      have hms' : P * (c * 2 ^ d) = P * (mg f s + 2 ^ (s / f.binade - 1)) := by rw [hms]
      apply c4
      refine Nat.eq_of_mul_eq_mul_right hQp (Nat.le_antisymm m2 ?_)
      generalize 2 ^ (s / f.binade - 1) = K at *
      generalize 2 ^ d = Q at *
      generalize mg f s = M at *
      grind
    · exfalso
      have hcB' : c = f.binade := by rcases hcB with h | h <;> omega
      have hn' : f.binade * P ≤ n := by rcases hd with h | h; omega; exact h
      have m3 := Nat.mul_le_mul_right (2 ^ d) hn'
      have hlt : mg f s < c * 2 ^ d := by
        have h9 : 0 < 2 ^ (s / f.binade - 1) := Nat.two_pow_pos _
        generalize 2 ^ (s / f.binade - 1) = K at *
        omega
      have m4 := Nat.mul_lt_mul_of_pos_left hlt hPp
      rw [hcB'] at m4 he
      generalize 2 ^ d = Q at *
      generalize mg f s = M at *
      grind

theorem nearest_spec (f : Format) (hp : 1 ≤ f.fractionBits) (neg : Bool) (m : Nat) (e : Int) :
    ∃ r, f.nearest neg m e = f.word neg (min r f.infRung) ∧ Rnd f (m * 2 ^ (e - f.leastPlace).toNat) (2 ^ (f.leastPlace - e).toNat) r := by
  by_cases hm : m = 0
  · subst hm
    refine ⟨0, by simp [Format.nearest], ?_⟩
    have := Rnd.exact f (2 ^ (f.leastPlace - e).toNat) 0 (Nat.two_pow_pos _)
    rw [mg_zero] at this; simpa using this
  unfold Format.nearest
  rw [if_neg hm]
  dsimp only
  generalize hL : f.leastPlace = L
  generalize hlast : max (e + (m.log2 : Int) - (f.fractionBits : Int)) L = last
  have hl1 : e + (m.log2 : Int) - (f.fractionBits : Int) ≤ last := by omega
  have hl2 : L ≤ last := by omega
  have hl3 : last = L ∨ last = e + (m.log2 : Int) - (f.fractionBits : Int) := by omega
  refine ⟨_, rfl, ?_⟩
  rw [Nat.shiftLeft_eq]
  generalize ha : (e - last).toNat = a
  generalize hb : (last - e).toNat = b
  generalize hd : (last - L).toNat = d
  generalize hx : (e - L).toNat = x
  generalize hy : (L - e).toNat = y
  have hlog : 2 ^ m.log2 ≤ m := Nat.log2_self_le hm
  have hlog2 : m < 2 ^ (m.log2 + 1) := Nat.lt_log2_self
  have hn : m * 2 ^ a < 2 * f.binade * 2 ^ b := by
    have h1 : m * 2 ^ a < 2 ^ (m.log2 + 1) * 2 ^ a := Nat.mul_lt_mul_of_pos_right hlog2 (Nat.two_pow_pos _)
    refine Nat.lt_of_lt_of_le h1 ?_
    unfold Format.binade
    rw [← Nat.pow_add, show 2 * 2 ^ f.fractionBits = 2 ^ (f.fractionBits + 1) by rw [Nat.pow_succ, Nat.mul_comm], ← Nat.pow_add]
    exact Nat.pow_le_pow_right (by omega) (by omega)
  have hd' : d = 0 ∨ f.binade * 2 ^ b ≤ m * 2 ^ a := by
    by_cases h0 : d = 0
    · exact Or.inl h0
    · right
      refine Nat.le_trans ?_ (Nat.mul_le_mul_right _ hlog)
      unfold Format.binade
      rw [← Nat.pow_add, ← Nat.pow_add]
      exact Nat.pow_le_pow_right (by omega) (by omega)
  obtain ⟨c1, c2, c3, c4⟩ := cut_spec neg (m * 2 ^ a) b
  refine (rnd_kept f hp (m * 2 ^ a) (2 ^ b) d _ (Nat.two_pow_pos _) hn hd' c1 c2 c3 c4).scale (Nat.two_pow_pos _) (Nat.two_pow_pos _) ?_
  rw [Nat.mul_assoc, Nat.mul_assoc, Nat.mul_assoc, ← Nat.pow_add, ← Nat.pow_add, ← Nat.pow_add]
  congr 2
  omega

/-- the rung and the sign of a word -/
def rg (f : Format) (w : Nat) : Nat := w % f.signWeight
def ng (f : Format) (w : Nat) : Bool := w / f.signWeight % 2 == 1

theorem signWeight_pos (f : Format) : 0 < f.signWeight := Nat.two_pow_pos _

theorem rg_word (f : Format) (s : Bool) {r : Nat} (h : r < f.signWeight) : rg f (f.word s r) = r := by
  unfold rg Format.word
  cases s
  · simp [Nat.mod_eq_of_lt h]
  · simp [Nat.mod_eq_of_lt h]

theorem ng_word (f : Format) (s : Bool) {r : Nat} (h : r < f.signWeight) : ng f (f.word s r) = s := by
  unfold ng Format.word
  cases s
  · simp [Nat.div_eq_of_lt h]
  · simp [Nat.add_div_left _ (signWeight_pos f), Nat.div_eq_of_lt h]

theorem width_two (f : Format) : 2 ^ f.width = 2 * f.signWeight := by
  unfold Format.width Format.signWeight
  rw [Nat.add_assoc, Nat.add_comm 1, Nat.pow_succ, Nat.mul_comm]

/-- a word is its sign and its rung -/
theorem word_self (f : Format) {w : Nat} (h : w < 2 ^ f.width) : f.word (ng f w) (rg f w) = w := by
  rw [width_two] at h
  have hs := signWeight_pos f
  have hdm := Nat.div_add_mod w f.signWeight
  unfold Format.word ng rg
  by_cases h1 : w < f.signWeight
  · rw [Nat.div_eq_of_lt h1, Nat.mod_eq_of_lt h1]; simp
  · have e : w / f.signWeight = 1 := by
      rw [Nat.div_eq_iff hs]; omega
    rw [e] at hdm ⊢
    simp; omega

theorem word_inj (f : Format) {x y : Nat} (hx : x < 2 ^ f.width) (hy : y < 2 ^ f.width) (h1 : ng f x = ng f y) (h2 : rg f x = rg f y) : x = y := by
  rw [← word_self f hx, ← word_self f hy, h1, h2]

theorem rg_lt (f : Format) (w : Nat) : rg f w < f.signWeight := Nat.mod_lt _ (signWeight_pos f)

theorem read_fin (f : Format) {w : Nat} (h : rg f w < f.infRung) : ∃ m k : Nat, f.read w = .number (ng f w) m (f.leastPlace + k) ∧ m * 2 ^ k = mg f (rg f w) := by
  unfold Format.read
  dsimp only
  change rg f w < _ at h
  show ∃ m k : Nat, (if rg f w < f.binade then Datum.number (ng f w) (rg f w) f.leastPlace
    else if rg f w < f.infRung then .number (ng f w) (f.binade + rg f w % f.binade) (f.leastPlace + (rg f w / f.binade - 1 : Nat))
    else if rg f w = f.infRung then .infinity (ng f w) else .nan (ng f w) (rg f w - f.infRung)) = _ ∧ _
  by_cases h0 : rg f w < f.binade
  · rw [if_pos h0]
    exact ⟨rg f w, 0, by simp, by simp [mg, h0]⟩
  · rw [if_neg h0, if_pos h]
    exact ⟨_, _, rfl, by simp [mg, h0]⟩

theorem binade_le_inf (f : Format) (he : 1 ≤ f.exponentBits) : f.binade ≤ f.infRung := by
  unfold Format.infRung
  have : 2 ^ 1 ≤ 2 ^ f.exponentBits := Nat.pow_le_pow_right (by omega) he
  exact Nat.le_mul_of_pos_left _ (by omega)

theorem read_inf (f : Format) (he : 1 ≤ f.exponentBits) {w : Nat} (h : rg f w = f.infRung) : f.read w = .infinity (ng f w) := by
  have hb := binade_le_inf f he
  show (if rg f w < f.binade then Datum.number (ng f w) (rg f w) f.leastPlace
    else if rg f w < f.infRung then .number (ng f w) (f.binade + rg f w % f.binade) (f.leastPlace + (rg f w / f.binade - 1 : Nat))
    else if rg f w = f.infRung then .infinity (ng f w) else .nan (ng f w) (rg f w - f.infRung)) = _
  rw [if_neg (by omega), if_neg (by omega), if_pos h]

theorem read_nan (f : Format) (he : 1 ≤ f.exponentBits) {w : Nat} (h : f.infRung < rg f w) : f.read w = .nan (ng f w) (rg f w - f.infRung) := by
  have hb := binade_le_inf f he
  show (if rg f w < f.binade then Datum.number (ng f w) (rg f w) f.leastPlace
    else if rg f w < f.infRung then .number (ng f w) (f.binade + rg f w % f.binade) (f.leastPlace + (rg f w / f.binade - 1 : Nat))
    else if rg f w = f.infRung then .infinity (ng f w) else .nan (ng f w) (rg f w - f.infRung)) = _
  rw [if_neg (by omega), if_neg (by omega), if_neg (by omega)]

/-- a signed magnitude -/
def sg (neg : Bool) (n : Nat) : Int := if neg then -(n : Int) else n

theorem signed_eq (s : Bool) (m k : Nat) : signed s m k = sg s (m * 2 ^ k) := by
  unfold signed sg; rw [Nat.shiftLeft_eq]

theorem sg_mul (s : Bool) (n k : Nat) : sg s (n * k) = sg s n * (k : Int) := by
  unfold sg; cases s <;> simp [Int.neg_mul]

theorem natAbs_sg (s : Bool) (n : Nat) : (sg s n).natAbs = n := by cases s <;> simp [sg]

/-- the value of a finite word, in units of the least place -/
def sv (f : Format) (w : Nat) : Int := sg (ng f w) (mg f (rg f w))
/-- where a word stands among the words that are no NaN -/
def key (f : Format) (w : Nat) : Int := sg (ng f w) (rg f w)

theorem cmp_lt {a b : Int} (h : a < b) : compare a b = .lt := by simp [compare, compareOfLessAndEq, h]
theorem cmp_gt {a b : Int} (h : b < a) : compare a b = .gt := by
  have h1 : ¬ a < b := by omega
  have h2 : ¬ a = b := by omega
  simp [compare, compareOfLessAndEq, h1, h2]
theorem cmp_eq {a b : Int} (h : a = b) : compare a b = .eq := by subst h; simp [compare, compareOfLessAndEq]

theorem compare_scale (a b : Int) (k : Nat) (hk : 0 < k) : compare (a * (k : Int)) (b * (k : Int)) = compare a b := by
  have hk' : (0 : Int) < k := by omega
  rcases Int.lt_trichotomy a b with h | h | h
  · have := Int.mul_lt_mul_of_pos_right h hk'
    rw [cmp_lt this, cmp_lt h]
  · rw [h]; simp
  · have := Int.mul_lt_mul_of_pos_right h hk'
    rw [cmp_gt this, cmp_gt h]

theorem order_fin_sv (f : Format) {x y : Nat} (hx : rg f x < f.infRung) (hy : rg f y < f.infRung) : f.order x y = some (compare (sv f x) (sv f y)) := by
  obtain ⟨m, i, e1, h1⟩ := read_fin f hx
  obtain ⟨n, j, e2, h2⟩ := read_fin f hy
  unfold Format.order
  rw [e1, e2]
  simp only [Datum.order, Option.some.injEq]
  rw [signed_eq, signed_eq]
  unfold sv
  rw [← h1, ← h2]
  generalize hb : min (f.leastPlace + (i : Int)) (f.leastPlace + (j : Int)) = b
  generalize ha : (f.leastPlace + (i : Int) - b).toNat = a
  generalize hc : (f.leastPlace + (j : Int) - b).toNat = c
  obtain ⟨k, hki, hkj⟩ : ∃ k, i = a + k ∧ j = c + k := ⟨min i j, by omega, by omega⟩
  rw [hki, hkj, Nat.pow_add, Nat.pow_add, ← Nat.mul_assoc, ← Nat.mul_assoc, sg_mul (ng f x) (m * 2 ^ a), sg_mul (ng f y) (n * 2 ^ c), compare_scale _ _ _ (Nat.two_pow_pos _)]

theorem sg_lt (f : Format) (s t : Bool) (a b : Nat) : sg s (mg f a) < sg t (mg f b) ↔ sg s a < sg t b := by
  have h1 := mg_lt_iff (f := f) (r := a) (s := b)
  have h2 := mg_lt_iff (f := f) (r := b) (s := a)
  have h3 := mg_lt_iff (f := f) (r := 0) (s := a)
  have h4 := mg_lt_iff (f := f) (r := 0) (s := b)
  rw [mg_zero] at h3 h4
  unfold sg
  cases s <;> cases t <;> simp <;> omega

theorem compare_sg (f : Format) (s t : Bool) (a b : Nat) : compare (sg s (mg f a)) (sg t (mg f b)) = compare (sg s a) (sg t b) := by
  have h1 := sg_lt f s t a b
  have h2 := sg_lt f t s b a
  rcases Int.lt_trichotomy (sg s a) (sg t b) with h | h | h
  · rw [cmp_lt h, cmp_lt (h1.2 h)]
  · have e : sg s (mg f a) = sg t (mg f b) := by omega
    rw [h, e]; simp
  · rw [cmp_gt h, cmp_gt (h2.2 h)]

/-- HOW TWO WORDS THAT ARE NO NaN STAND: as their keys -/
theorem order_key (f : Format) (he : 1 ≤ f.exponentBits) {x y : Nat} (hx : rg f x ≤ f.infRung) (hy : rg f y ≤ f.infRung) : f.order x y = some (compare (key f x) (key f y)) := by
  by_cases hx' : rg f x < f.infRung
  · by_cases hy' : rg f y < f.infRung
    · rw [order_fin_sv f hx' hy']; unfold sv key; rw [compare_sg]
    · have hy2 : rg f y = f.infRung := by omega
      obtain ⟨m, i, e1, h1⟩ := read_fin f hx'
      unfold Format.order
      rw [e1, read_inf f he hy2]
      simp only [Datum.order]
      congr 1
      unfold key sg
      symm
      cases ng f y <;> cases ng f x <;> simp only [Bool.false_eq_true, if_false, if_true]
      all_goals first | exact cmp_lt (by omega) | exact cmp_gt (by omega)
  · have hx2 : rg f x = f.infRung := by omega
    have hpos : 0 < f.infRung := Nat.lt_of_lt_of_le (binade_pos f) (binade_le_inf f he)
    by_cases hy' : rg f y < f.infRung
    · obtain ⟨m, i, e1, h1⟩ := read_fin f hy'
      unfold Format.order
      rw [e1, read_inf f he hx2]
      simp only [Datum.order]
      congr 1
      unfold key sg
      symm
      cases ng f x <;> cases ng f y <;> simp only [Bool.false_eq_true, if_false, if_true]
      all_goals first | exact cmp_lt (by omega) | exact cmp_gt (by omega)
    · have hy2 : rg f y = f.infRung := by omega
      unfold Format.order
      rw [read_inf f he hx2, read_inf f he hy2]
      simp only [Datum.order]
      congr 1
      unfold key sg
      symm
      rw [hx2, hy2]
      cases ng f x <;> cases ng f y <;> simp only [Bool.false_eq_true, if_false, if_true, Bool.toNat_true, Bool.toNat_false]
      all_goals first | exact (cmp_lt (by omega)).trans rfl | exact (cmp_gt (by omega)).trans rfl | exact (cmp_eq rfl).trans rfl

theorem order_nan_left (f : Format) (he : 1 ≤ f.exponentBits) {x y : Nat} (hx : f.infRung < rg f x) : f.order x y = none := by
  unfold Format.order
  rw [read_nan f he hx]
  cases f.read y <;> rfl

theorem order_nan_right (f : Format) (he : 1 ≤ f.exponentBits) {x y : Nat} (hy : f.infRung < rg f y) : f.order x y = none := by
  unfold Format.order
  rw [read_nan f he hy]
  cases f.read x <;> rfl

/-- is it no NaN -/
def num (f : Format) (x : Nat) : Bool := decide (rg f x ≤ f.infRung)
/-- is it finite -/
def fin (f : Format) (x : Nat) : Bool := decide (rg f x < f.infRung)

theorem order_eq (f : Format) (he : 1 ≤ f.exponentBits) (x y : Nat) : f.order x y = if num f x && num f y then some (compare (key f x) (key f y)) else none := by
  unfold num
  by_cases hx : rg f x ≤ f.infRung
  · by_cases hy : rg f y ≤ f.infRung
    · simp [hx, hy, order_key f he hx hy]
    · simp [hx, hy, order_nan_right f he (x := x) (y := y) (by omega)]
  · simp [hx, order_nan_left f he (x := x) (y := y) (by omega)]

/-- the word to which a value rounds -/
def out (f : Format) (s : Bool) (r : Nat) : Nat := f.word s (min r f.infRung)

theorem out_rg (f : Format) (s : Bool) (r : Nat) : rg f (out f s r) = min r f.infRung := rg_word f s (by have := f.infRung_lt; omega)
theorem out_ng (f : Format) (s : Bool) (r : Nat) : ng f (out f s r) = s := ng_word f s (by have := f.infRung_lt; omega)
theorem out_lt (f : Format) (s : Bool) (r : Nat) : out f s r < 2 ^ f.width := f.word_lt _ (by have := f.infRung_lt; omega)

/-- of two formats alike: the least place lies below nought -/
structure Fine (f : Format) : Prop where
  e : 1 ≤ f.exponentBits
  p : 1 ≤ f.fractionBits
  l : f.leastPlace ≤ 0
theorem fine (k : FloatKind) : Fine k.format := by cases k <;> exact ⟨by decide, by decide, by decide⟩

/-- how far the least place lies below nought -/
def dn (f : Format) : Nat := (-f.leastPlace).toNat

theorem mul_fin {f : Format} (F : Fine f) {x y : Nat} (hx : rg f x < f.infRung) (hy : rg f y < f.infRung) :
    ∃ r, f.mul x y = some (out f (ng f x ^^ ng f y) r) ∧ Rnd f (mg f (rg f x) * mg f (rg f y)) (2 ^ dn f) r := by
  obtain ⟨m, i, e1, h1⟩ := read_fin f hx
  obtain ⟨n, j, e2, h2⟩ := read_fin f hy
  unfold Format.mul
  rw [e1, e2]
  simp only [Datum.product, Option.map_some, Format.write, Option.some.injEq]
  obtain ⟨r, hr, hR⟩ := nearest_spec f F.p (ng f x ^^ ng f y) (m * n) (f.leastPlace + ↑i + (f.leastPlace + ↑j))
  refine ⟨r, hr, hR.scale (Nat.two_pow_pos _) (Nat.two_pow_pos _) ?_⟩
  rw [← h1, ← h2]
  have hl := F.l
  unfold dn
  generalize f.leastPlace = L at *
  generalize ha : (L + ↑i + (L + ↑j) - L).toNat = a
  generalize hb : (L - (L + ↑i + (L + ↑j))).toNat = b
  generalize hd : (-L).toNat = d
  have e3 : a + d = i + j + b := by omega
  have e4 : m * 2 ^ i * (n * 2 ^ j) * 2 ^ b = m * n * 2 ^ (i + j + b) := by rw [Nat.pow_add, Nat.pow_add]; grind
  rw [e4, ← e3, Nat.pow_add, Nat.mul_assoc]

/-- a signed sum: its sign and its amount -/
theorem sum_eq (s t : Bool) (m n : Nat) (i j : Int) : ∃ b : Int, (Datum.number s m i).sum (.number t n j) =
    some (.number (if sg s (m * 2 ^ (i - b).toNat) + sg t (n * 2 ^ (j - b).toNat) = 0 then s && t else decide (sg s (m * 2 ^ (i - b).toNat) + sg t (n * 2 ^ (j - b).toNat) < 0))
      (sg s (m * 2 ^ (i - b).toNat) + sg t (n * 2 ^ (j - b).toNat)).natAbs b) ∧ b = min i j := by
  refine ⟨min i j, ?_, rfl⟩
  simp only [Datum.sum, signed_eq]

theorem add_raw {f : Format} (F : Fine f) {s t : Bool} {a b : Nat} {m n i j : Nat} (h1 : m * 2 ^ i = a) (h2 : n * 2 ^ j = b) :
    ∃ r, ((Datum.number s m (f.leastPlace + i)).sum (.number t n (f.leastPlace + j))).map f.write =
      some (out f (if sg s a + sg t b = 0 then s && t else decide (sg s a + sg t b < 0)) r) ∧ Rnd f (sg s a + sg t b).natAbs 1 r := by
  obtain ⟨B, e, hB⟩ := sum_eq s t m n (f.leastPlace + i) (f.leastPlace + j)
  rw [e]
  simp only [Option.map_some, Format.write, Option.some.injEq]
  generalize hp : (f.leastPlace + (i : Int) - B).toNat = p
  generalize hq : (f.leastPlace + (j : Int) - B).toNat = q
  obtain ⟨k, hki, hkj⟩ : ∃ k, i = p + k ∧ j = q + k := ⟨min i j, by omega, by omega⟩
  have ha : sg s a = sg s (m * 2 ^ p) * ((2 ^ k : Nat) : Int) := by rw [← h1, hki, Nat.pow_add, ← Nat.mul_assoc, sg_mul]
  have hb : sg t b = sg t (n * 2 ^ q) * ((2 ^ k : Nat) : Int) := by rw [← h2, hkj, Nat.pow_add, ← Nat.mul_assoc, sg_mul]
  have hs : sg s a + sg t b = (sg s (m * 2 ^ p) + sg t (n * 2 ^ q)) * ((2 ^ k : Nat) : Int) := by rw [ha, hb, Int.add_mul]
  generalize sg s (m * 2 ^ p) + sg t (n * 2 ^ q) = T at *
  have hk : (0 : Int) < ((2 ^ k : Nat) : Int) := by have := Nat.two_pow_pos k; omega
  rw [hs]
  have z1 : T * ((2 ^ k : Nat) : Int) = 0 ↔ T = 0 := by
    rw [Int.mul_eq_zero]; omega
  have z2 : T * ((2 ^ k : Nat) : Int) < 0 ↔ T < 0 := by
    constructor
    · intro h
      by_cases hT : T < 0
      · exact hT
      · have := Int.mul_nonneg (show 0 ≤ T by omega) (Int.le_of_lt hk); omega
    · intro h; exact Int.mul_neg_of_neg_of_pos h hk
  simp only [z1, z2]
  obtain ⟨r, hr, hR⟩ := nearest_spec f F.p (if T = 0 then s && t else decide (T < 0)) T.natAbs B
  refine ⟨r, hr, hR.scale (Nat.two_pow_pos _) (by omega) ?_⟩
  rw [Int.natAbs_mul, Int.natAbs_natCast]
  have e0 : (f.leastPlace - B).toNat = 0 := by omega
  have e1 : (B - f.leastPlace).toNat = k := by omega
  rw [e0, e1, Nat.pow_zero, Nat.mul_one]

theorem opposite_number (s : Bool) (m : Nat) (e : Int) : (Datum.number s m e).opposite = .number (!s) m e := rfl

theorem add_fin {f : Format} (F : Fine f) {x y : Nat} (hx : rg f x < f.infRung) (hy : rg f y < f.infRung) :
    ∃ r, f.add x y = some (out f (if sv f x + sv f y = 0 then ng f x && ng f y else decide (sv f x + sv f y < 0)) r) ∧ Rnd f (sv f x + sv f y).natAbs 1 r := by
  obtain ⟨m, i, e1, h1⟩ := read_fin f hx
  obtain ⟨n, j, e2, h2⟩ := read_fin f hy
  unfold Format.add sv
  rw [e1, e2]
  exact add_raw F h1 h2

theorem sub_fin {f : Format} (F : Fine f) {x y : Nat} (hx : rg f x < f.infRung) (hy : rg f y < f.infRung) :
    ∃ r, f.sub x y = some (out f (if sv f x - sv f y = 0 then ng f x && !ng f y else decide (sv f x - sv f y < 0)) r) ∧ Rnd f (sv f x - sv f y).natAbs 1 r := by
  obtain ⟨m, i, e1, h1⟩ := read_fin f hx
  obtain ⟨n, j, e2, h2⟩ := read_fin f hy
  unfold Format.sub sv
  rw [e1, e2, opposite_number]
  have e : sg (ng f x) (mg f (rg f x)) - sg (ng f y) (mg f (rg f y)) = sg (ng f x) (mg f (rg f x)) + sg (!ng f y) (mg f (rg f y)) := by
    cases ng f y <;> simp [sg] <;> try omega
  rw [e]
  exact add_raw F h1 h2

theorem div_fin {f : Format} (F : Fine f) {x y : Nat} (hx : rg f x < f.infRung) (hy : rg f y < f.infRung) (hy0 : rg f y ≠ 0) :
    ∃ r, f.div x y = some (out f (ng f x ^^ ng f y) r) ∧ Rnd f (mg f (rg f x) * 2 ^ dn f) (mg f (rg f y)) r := by
  obtain ⟨m, i, e1, h1⟩ := read_fin f hx
  obtain ⟨n, j, e2, h2⟩ := read_fin f hy
  have hny : 0 < mg f (rg f y) := by have := mg_lt (f := f) (show 0 < rg f y by omega); omega
  have hn : n ≠ 0 := by rintro rfl; simp at h2; omega
  unfold Format.div
  rw [e1, e2]
  simp only [Datum.quotient, if_neg hn, Option.map_some, Format.write, Option.some.injEq]
  generalize hneg : (ng f x ^^ ng f y) = neg
  generalize hmore : f.fractionBits + 2 + n.log2 - m.log2 = more
  rw [Nat.shiftLeft_eq]
  by_cases hm : m = 0
  · subst hm
    refine ⟨0, ?_, ?_⟩
    · simp [Format.nearest, out]
    · rw [← h1]
      have := Rnd.exact f (mg f (rg f y)) 0 hny
      rw [mg_zero] at this; simpa using this
  generalize hdd : m * 2 ^ more = dd
  generalize hplace : f.leastPlace + (i : Int) - (f.leastPlace + ↑j) - (more : Int) - 1 = e'
  have hnp : 0 < n := by omega
  have hdm := Nat.div_add_mod dd n
  have hml := Nat.mod_lt dd hnp
  generalize hF : dd / n = Q at *
  generalize hR0 : dd % n = R at *
  generalize hsig : (R != 0).toNat = σ
  have hσ : (R = 0 ∧ σ = 0) ∨ (R ≠ 0 ∧ σ = 1) := by
    by_cases h : R = 0
    · have h' : (R != 0) = false := by simp [h]
      rw [h'] at hsig; exact Or.inl ⟨h, hsig.symm⟩
    · have h' : (R != 0) = true := by simp [h]
      rw [h'] at hsig; exact Or.inr ⟨h, hsig.symm⟩
  -- the quotient has enough digits
  have hbig : 2 ^ (f.fractionBits + 1) ≤ Q := by
    rw [← hF, Nat.le_div_iff_mul_le hnp]
    have l1 : 2 ^ m.log2 ≤ m := Nat.log2_self_le hm
    have l2 : n < 2 ^ (n.log2 + 1) := Nat.lt_log2_self
    calc 2 ^ (f.fractionBits + 1) * n ≤ 2 ^ (f.fractionBits + 1) * 2 ^ (n.log2 + 1) := Nat.mul_le_mul_left _ (by omega)
      _ = 2 ^ (f.fractionBits + 1 + (n.log2 + 1)) := by rw [← Nat.pow_add]
      _ ≤ 2 ^ (m.log2 + more) := Nat.pow_le_pow_right (by omega) (by omega)
      _ = 2 ^ m.log2 * 2 ^ more := by rw [Nat.pow_add]
      _ ≤ dd := by rw [← hdd]; exact Nat.mul_le_mul_right _ l1
  generalize hv : 2 * Q + σ = v
  have hvpos : v ≠ 0 := by have := Nat.two_pow_pos (f.fractionBits + 1); omega
  have hvlog : f.fractionBits + 2 ≤ v.log2 := by
    rw [Nat.le_log2 hvpos, show f.fractionBits + 2 = (f.fractionBits + 1) + 1 from rfl, Nat.pow_succ]; omega
  unfold Format.nearest
  rw [if_neg hvpos]
  dsimp only
  have hL0 := F.l
  unfold dn
  generalize hL : f.leastPlace = L at *
  generalize hlast : max (e' + (v.log2 : Int) - (f.fractionBits : Int)) L = last
  have hl1 : e' + (v.log2 : Int) - (f.fractionBits : Int) ≤ last := by omega
  have hl2 : L ≤ last := by omega
  have hl3 : last = L ∨ last = e' + (v.log2 : Int) - (f.fractionBits : Int) := by omega
  refine ⟨_, rfl, ?_⟩
  have ha : (e' - last).toNat = 0 := by omega
  rw [ha, Nat.shiftLeft_eq, Nat.pow_zero, Nat.mul_one]
  generalize hb : (last - e').toNat = b
  generalize hd : (last - L).toNat = d
  have hb2 : 2 ≤ b := by omega
  obtain ⟨c1, c2, c3, c4⟩ := cut_spec neg v b
  generalize Toward.even.cut neg v b = c at *
  obtain ⟨g, hg⟩ : ∃ g, 2 ^ b = 4 * g := ⟨2 ^ (b - 2), by rw [show (4 : Nat) = 2 ^ 2 from rfl, ← Nat.pow_add]; congr 1; omega⟩
  have hgp : 0 < g := by have := Nat.two_pow_pos b; omega
  have hvlt : v < 2 ^ (v.log2 + 1) := Nat.lt_log2_self
  have hvle : 2 ^ v.log2 ≤ v := Nat.log2_self_le hvpos
  have hlt1 : v < 2 * f.binade * 2 ^ b := by
    refine Nat.lt_of_lt_of_le hvlt ?_
    unfold Format.binade
    rw [show 2 * 2 ^ f.fractionBits = 2 ^ (f.fractionBits + 1) by rw [Nat.pow_succ, Nat.mul_comm], ← Nat.pow_add]
    exact Nat.pow_le_pow_right (by omega) (by omega)
  have hge1 : d = 0 ∨ f.binade * 2 ^ b ≤ v := by
    by_cases h0 : d = 0
    · exact Or.inl h0
    · right
      refine Nat.le_trans ?_ hvle
      unfold Format.binade
      rw [← Nat.pow_add]
      exact Nat.pow_le_pow_right (by omega) (by omega)
  -- the true quotient: N = 2 * dd over n
  have hrk : Rnd f (2 * dd * 2 ^ d) (n * 2 ^ b) (d * f.binade + c) := by
    have hB := binade_pos f
    rw [hg] at c1 c2 c3 c4 hlt1 hge1 ⊢
    have k1 : ∀ X : Nat, v < 4 * X → 2 * dd < n * (4 * X) := by
      intro X hX
      have : Q + 1 ≤ 2 * X := by omega
      have := Nat.mul_le_mul_left n this
      rw [Nat.mul_add] at this
      have e4 : n * (4 * X) = 2 * (n * (2 * X)) := by grind
      omega
    have k2 : ∀ X : Nat, 4 * X ≤ v → n * (4 * X) ≤ 2 * dd := by
      intro X hX
      have : 2 * X ≤ Q := by omega
      have := Nat.mul_le_mul_left n this
      have e4 : n * (4 * X) = 2 * (n * (2 * X)) := by grind
      omega
    have k3 : ∀ X : Nat, v ≤ 2 * X → 2 * dd ≤ n * (2 * X) := by
      intro X hX
      have h : Q + 1 ≤ X ∨ (Q = X ∧ R = 0) := by omega
      have e4 : n * (2 * X) = 2 * (n * X) := by grind
      rcases h with h | ⟨h, h'⟩
      · have := Nat.mul_le_mul_left n h
        rw [Nat.mul_add] at this
        omega
      · subst h; omega
    have k4 : ∀ X : Nat, 2 * X ≤ v → n * (2 * X) ≤ 2 * dd := by
      intro X hX
      have h : X ≤ Q := by omega
      have := Nat.mul_le_mul_left n h
      have e4 : n * (2 * X) = 2 * (n * X) := by grind
      omega
    have k5 : ∀ X : Nat, 2 * dd = n * (2 * X) → v = 2 * X := by
      intro X hX
      have e4 : n * (2 * X) = 2 * (n * X) := by grind
      have h5 : dd = n * X := by omega
      have h6 : Q = X := by rw [← hF, h5, Nat.mul_div_cancel_left _ hnp]
      have h7 : R = 0 := by rw [← hR0, h5, Nat.mul_mod_right]
      omega
    refine rnd_kept f F.p (2 * dd) (n * (4 * g)) d c (Nat.mul_pos hnp (by omega)) ?_ ?_ ?_ ?_ ?_ ?_
    · have := k1 (2 * f.binade * g) (by rw [show 4 * (2 * f.binade * g) = 2 * f.binade * (4 * g) by grind]; exact hlt1)
      rw [show 2 * f.binade * (n * (4 * g)) = n * (4 * (2 * f.binade * g)) by grind]; exact this
    · rcases hge1 with h | h
      · exact Or.inl h
      · right
        have := k2 (f.binade * g) (by rw [show 4 * (f.binade * g) = f.binade * (4 * g) by grind]; exact h)
        rw [show f.binade * (n * (4 * g)) = n * (4 * (f.binade * g)) by grind]; exact this
    · have := k3 (c * (2 * g) + g) (by have : c * (4 * g) = 2 * (c * (2 * g)) := by grind
                                       omega)
      have e4 : 2 * (c * (n * (4 * g))) + n * (4 * g) = 2 * (n * (2 * (c * (2 * g) + g))) := by grind
      omega
    · by_cases h0 : c = 0
      · subst h0; simp
      · have := k4 (c * (2 * g) - g) (by have : c * (4 * g) = 2 * (c * (2 * g)) := by grind
                                         omega)
        have hcg : g ≤ c * (2 * g) := Nat.le_trans (by omega) (Nat.mul_le_mul_right (2 * g) (show 1 ≤ c by omega))
        obtain ⟨u, hu⟩ : ∃ u, c * (2 * g) = u + g := ⟨c * (2 * g) - g, by omega⟩
        rw [hu, Nat.add_sub_cancel] at this
        have e4 : 2 * (c * (n * (4 * g))) = 2 * (n * (2 * u)) + n * (4 * g) := by
          have : c * (n * (4 * g)) = n * (2 * (c * (2 * g))) := by grind
          rw [this, hu]; grind
        omega
    · intro he
      apply c3
      have := k5 (c * (2 * g) + g) (by have e4 : 2 * (c * (n * (4 * g))) + n * (4 * g) = 2 * (n * (2 * (c * (2 * g) + g))) := by grind
                                       omega)
      have : c * (4 * g) = 2 * (c * (2 * g)) := by grind
      omega
    · intro he
      apply c4
      by_cases h0 : c = 0
      · subst h0
        exfalso
        have : 0 < n * (4 * g) := Nat.mul_pos hnp (by omega)
        omega
      · have hcg : g ≤ c * (2 * g) := Nat.le_trans (by omega) (Nat.mul_le_mul_right (2 * g) (show 1 ≤ c by omega))
        obtain ⟨u, hu⟩ : ∃ u, c * (2 * g) = u + g := ⟨c * (2 * g) - g, by omega⟩
        have e4 : 2 * (c * (n * (4 * g))) = 2 * (n * (2 * u)) + n * (4 * g) := by
          have : c * (n * (4 * g)) = n * (2 * (c * (2 * g))) := by grind
          rw [this, hu]; grind
        have := k5 u (by omega)
        have : c * (4 * g) = 2 * (c * (2 * g)) := by grind
        omega
  refine hrk.scale (Nat.mul_pos hnp (Nat.two_pow_pos _)) hny ?_
  rw [← h1, ← h2, ← hdd]
  generalize hdn : (-L).toNat = t
  have e3 : 1 + more + d + j = i + t + b := by omega
  have e5 : 2 * (m * 2 ^ more) * 2 ^ d * (n * 2 ^ j) = m * n * 2 ^ (1 + more + d + j) := by
    rw [Nat.pow_add, Nat.pow_add, Nat.pow_add, Nat.pow_one]; grind
  have e6 : m * 2 ^ i * 2 ^ t * (n * 2 ^ b) = m * n * 2 ^ (i + t + b) := by
    rw [Nat.pow_add, Nat.pow_add]; grind
  rw [e5, e6, e3]

theorem ord {k : FloatKind} {x y : Nat} (hx : num k.format x = true) (hy : num k.format y = true) : k.format.order x y = some (compare (key k.format x) (key k.format y)) := by
  rw [order_eq _ (fine k).e, hx, hy]; rfl
theorem ordSelf {k : FloatKind} {x : Nat} (hx : num k.format x = true) : k.format.order x x = some .eq := by rw [ord hx hx, cmp_eq rfl]
theorem ordNanL {k : FloatKind} {x : Nat} (hx : num k.format x = false) (y : Nat) : k.format.order x y = none := by
  rw [order_eq _ (fine k).e, hx]; rfl
theorem ordNanR {k : FloatKind} {x : Nat} (hx : num k.format x = false) (y : Nat) : k.format.order y x = none := by
  rw [order_eq _ (fine k).e, hx, Bool.and_false]; rfl
theorem ordLt {k : FloatKind} {x y : Nat} (hx : num k.format x = true) (hy : num k.format y = true) (h : key k.format x < key k.format y) : k.format.order x y = some .lt := by rw [ord hx hy, cmp_lt h]
theorem ordGt {k : FloatKind} {x y : Nat} (hx : num k.format x = true) (hy : num k.format y = true) (h : key k.format y < key k.format x) : k.format.order x y = some .gt := by rw [ord hx hy, cmp_gt h]
theorem ordEq {k : FloatKind} {x y : Nat} (hx : num k.format x = true) (hy : num k.format y = true) (h : key k.format x = key k.format y) : k.format.order x y = some .eq := by rw [ord hx hy, cmp_eq h]

theorem num_of_fin {f : Format} {x : Nat} (h : fin f x = true) : num f x = true := by simp [fin, num] at *; omega
theorem fin_iff {f : Format} {x : Nat} : fin f x = true ↔ rg f x < f.infRung := by simp [fin]
theorem num_iff {f : Format} {x : Nat} : num f x = true ↔ rg f x ≤ f.infRung := by simp [num]

/-- nought -/
theorem rg_zero (f : Format) : rg f 0 = 0 := by simp [rg]
theorem key_zero (f : Format) : key f 0 = 0 := by simp [key, rg, sg]
theorem num_zero (f : Format) : num f 0 = true := by simp [num, rg]
theorem key_eq_zero {f : Format} {x : Nat} : key f x = 0 ↔ rg f x = 0 := by unfold key sg; split <;> omega
theorem key_neg {f : Format} {x : Nat} : key f x < 0 ↔ ng f x = true ∧ rg f x ≠ 0 := by unfold key sg; split <;> simp_all <;> omega
theorem key_pos {f : Format} {x : Nat} : 0 < key f x ↔ ng f x = false ∧ rg f x ≠ 0 := by unfold key sg; split <;> simp_all <;> omega

/-- equal keys that are not 0: one word -/
theorem word_of_key {f : Format} {x y : Nat} (hx : x < 2 ^ f.width) (hy : y < 2 ^ f.width) (h : key f x = key f y) (h0 : rg f x ≠ 0) : x = y := by
  unfold key sg at h
  apply word_inj f hx hy
  · cases h1 : ng f x <;> cases h2 : ng f y <;> simp [h1, h2] at h ⊢ <;> omega
  · split at h <;> split at h <;> omega

/-- infinity with a sign -/
def inf (f : Format) (s : Bool) : Nat := f.word s f.infRung
theorem rg_inf (f : Format) (s : Bool) : rg f (inf f s) = f.infRung := rg_word f s f.infRung_lt
theorem ng_inf (f : Format) (s : Bool) : ng f (inf f s) = s := ng_word f s f.infRung_lt
theorem num_inf (f : Format) (s : Bool) : num f (inf f s) = true := by simp [num, rg_inf]
theorem key_inf (f : Format) (s : Bool) : key f (inf f s) = sg s f.infRung := by simp [key, rg_inf, ng_inf]

/-- a finite number, not 0, over 0 -/
theorem div_zero {k : FloatKind} {x y : Nat} (hx : fin k.format x = true) (hx0 : rg k.format x ≠ 0) (hy : rg k.format y = 0) :
    floatBits .quo k x y = some (inf k.format (ng k.format x ^^ ng k.format y)) := by
  have hb := binade_pos k.format
  have hb' := binade_le_inf k.format (fine k).e
  obtain ⟨m, i, e1, h1⟩ := read_fin k.format (fin_iff.1 hx)
  obtain ⟨n, j, e2, h2⟩ := read_fin k.format (w := y) (by omega)
  have hm : m ≠ 0 := by
    rintro rfl
    have := mg_lt (f := k.format) (show 0 < rg k.format x by omega)
    rw [mg_zero] at this; omega
  have hn : n = 0 := by
    rw [hy, mg_zero] at h2
    rcases Nat.mul_eq_zero.1 h2 with h | h
    · exact h
    · have := Nat.two_pow_pos j; omega
  subst hn
  show k.format.div x y = _
  unfold Format.div
  rw [e1, e2]
  simp [Datum.quotient, hm, Format.write, inf]

/-- an operation with a NaN -/
theorem nan_read {k : FloatKind} {x : Nat} (h : num k.format x = false) : ∃ s t, k.format.read x = .nan s t :=
  ⟨_, _, read_nan k.format (fine k).e (by simp [num] at h; omega)⟩

theorem arith_nan_l {op : BinOp} {k : FloatKind} {x : Nat} (h : num k.format x = false) (y : Nat) : floatBits op k x y = none := by
  obtain ⟨s, t, e⟩ := nan_read h
  unfold floatBits
  cases op <;> simp only [Format.add, Format.sub, Format.mul, Format.div, e] <;> (cases k.format.read y <;> rfl)

theorem arith_nan_r {op : BinOp} {k : FloatKind} {x : Nat} (h : num k.format x = false) (y : Nat) : floatBits op k y x = none := by
  obtain ⟨s, t, e⟩ := nan_read h
  unfold floatBits
  cases op <;> simp only [Format.add, Format.sub, Format.mul, Format.div, e, Datum.opposite] <;> (cases k.format.read y <;> rfl)

/-- the bits of a NaN that the tape gives -/
theorem num_false {f : Format} {x : Nat} : num f x = false ↔ f.infRung < x % f.signWeight := by
  unfold num rg; rw [decide_eq_false_iff_not]; omega
theorem cut_nan (k : FloatKind) (x y t : Nat) : num k.format (Question.cut (.nanBits k x y) t) = false ∧ Question.cut (.nanBits k x y) t < 2 ^ k.format.width := by
  rw [num_false]
  cases k
  · have h1 : t / 2 % (2 ^ 23 - 1) < 2 ^ 23 - 1 := Nat.mod_lt _ (by decide)
    have h2 : t % 2 < 2 := Nat.mod_lt _ (by decide)
    have e1 : FloatKind.f32.format.signWeight = 2147483648 := by decide
    have e2 : FloatKind.f32.format.infRung = 2139095040 := by decide
    have e3 : 2 ^ FloatKind.f32.format.width = 4294967296 := by decide
    rw [e1, e2, e3]
    simp only [Question.cut]
    generalize t / 2 % (2 ^ 23 - 1) = v at *
    have h3 : t % 2 = 0 ∨ t % 2 = 1 := by omega
    rcases h3 with h3 | h3 <;> rw [h3] <;> omega
  · have h1 : t / 2 % (2 ^ 52 - 1) < 2 ^ 52 - 1 := Nat.mod_lt _ (by decide)
    have h2 : t % 2 < 2 := Nat.mod_lt _ (by decide)
    have e1 : FloatKind.f64.format.signWeight = 9223372036854775808 := by decide
    have e2 : FloatKind.f64.format.infRung = 9218868437227405312 := by decide
    have e3 : 2 ^ FloatKind.f64.format.width = 18446744073709551616 := by decide
    rw [e1, e2, e3]
    simp only [Question.cut]
    generalize t / 2 % (2 ^ 52 - 1) = v at *
    have h3 : t % 2 = 0 ∨ t % 2 = 1 := by omega
    rcases h3 with h3 | h3 <;> rw [h3] <;> omega
theorem cut_nanConv (k : FloatKind) (x t : Nat) : num k.format (Question.cut (.nanConv k x) t) = false ∧ Question.cut (.nanConv k x) t < 2 ^ k.format.width := by
  cases k
  · exact cut_nan .f32 0 0 t
  · exact cut_nan .f64 0 0 t

section
variable (P : Program)
/-- an operation that has no answer: some NaN, and one draw -/
theorem run_arith_nan {op : BinOp} {k : FloatKind} {x y : Nat} (hop : op = .add ∨ op = .sub ∨ op = .mul ∨ op = .quo) (h : floatBits op k x y = none) (t : TypeId) :
    ∃ nb : World → Nat, (∀ w, num k.format (nb w) = false ∧ nb w < 2 ^ k.format.width) ∧ ∀ w, (binOp op t (.float k x) (.float k y)).run P w = .ok (.float k (nb w)) w.drew := by
  refine ⟨fun w => Question.cut (.nanBits k x y) (w.tape w.drawn (.nanBits k x y)), fun w => cut_nan k x y _, fun w => ?_⟩
  unfold floatBits at h
  rcases hop with rfl | rfl | rfl | rfl <;> simp only at h <;> simp [binOp, Op.floatArith, h, Question.forced]

theorem run_conv_nan {s k : FloatKind} {x : Nat} (hne : s ≠ k) (h : num s.format x = false) (src dst : TypeId) (hs : (P.underlying src).isSome = true) (hd : P.underlying dst = some (.float k)) :
    ∃ nb : World → Nat, (∀ w, num k.format (nb w) = false ∧ nb w < 2 ^ k.format.width) ∧ ∀ w, (convert src dst (.float s x)).run P w = .ok (.float k (nb w)) w.drew := by
  obtain ⟨u, hs'⟩ := Option.isSome_iff_exists.1 hs
  obtain ⟨a, b, e⟩ := nan_read h
  have e' : s.decode x = .nan a b := e
  refine ⟨fun w => Question.cut (.nanConv k x) (w.tape w.drawn (.nanConv k x)), fun w => cut_nanConv k x _, fun w => ?_⟩
  cases u <;> simp [convert, run_underlying hs', run_underlying hd, Conv.floatToFloat, hne, e', Question.forced]
end

/-! from float32 to float64 -/
abbrev S := FloatKind.f32.format
abbrev D := FloatKind.f64.format

theorem repr (f : Format) (n d : Nat) (h : n < 2 * f.binade) : ∃ r, mg f r = n * 2 ^ d := by
  by_cases hn : n = 0
  · exact ⟨0, by rw [hn, mg_zero]; simp⟩
  have h1 : 2 ^ n.log2 ≤ n := Nat.log2_self_le hn
  have h2 : n < 2 ^ (n.log2 + 1) := Nat.lt_log2_self
  have hp : n.log2 ≤ f.fractionBits := by
    have : n.log2 < f.fractionBits + 1 := by rw [Nat.log2_lt hn, Nat.pow_succ]; unfold Format.binade at h; omega
    omega
  by_cases hd : f.fractionBits - n.log2 ≤ d
  · refine ⟨(d - (f.fractionBits - n.log2)) * f.binade + n * 2 ^ (f.fractionBits - n.log2), ?_⟩
    rw [mg_kept f _ _ ?_ ?_, Nat.mul_assoc, ← Nat.pow_add]
    · congr 2; omega
    · unfold Format.binade
      have : n * 2 ^ (f.fractionBits - n.log2) ≤ 2 ^ (n.log2 + 1) * 2 ^ (f.fractionBits - n.log2) := Nat.mul_le_mul_right _ (by omega)
      rw [← Nat.pow_add] at this
      rw [show 2 * 2 ^ f.fractionBits = 2 ^ (n.log2 + 1 + (f.fractionBits - n.log2)) by rw [← Nat.pow_succ']; congr 1; omega]
      exact this
    · right
      unfold Format.binade
      have : 2 ^ n.log2 * 2 ^ (f.fractionBits - n.log2) ≤ n * 2 ^ (f.fractionBits - n.log2) := Nat.mul_le_mul_right _ h1
      rw [← Nat.pow_add] at this
      rw [show f.fractionBits = n.log2 + (f.fractionBits - n.log2) by omega, Nat.add_sub_cancel_left]
      exact this
  · refine ⟨n * 2 ^ d, ?_⟩
    have := mg_kept f 0 (n * 2 ^ d) ?_ (Or.inl rfl)
    · simpa using this
    · unfold Format.binade
      have h3 : n * 2 ^ d ≤ 2 ^ (n.log2 + 1) * 2 ^ d := Nat.mul_le_mul_right _ (by omega)
      rw [← Nat.pow_add] at h3
      refine Nat.le_trans h3 ?_
      rw [← Nat.pow_succ']
      exact Nat.pow_le_pow_right (by omega) (by omega)

/-- a rung's magnitude is a short number times a power of two -/
theorem mg_short (f : Format) (r : Nat) : ∃ n d, mg f r = n * 2 ^ d ∧ n < 2 * f.binade ∧ d ≤ r / f.binade - 1 := by
  have hB := binade_pos f
  unfold mg
  by_cases h : r < f.binade
  · rw [if_pos h]; exact ⟨r, 0, by simp, by omega, by omega⟩
  · rw [if_neg h]; exact ⟨_, _, rfl, by have := Nat.mod_lt r hB; omega, Nat.le_refl _⟩

theorem S_L : S.leastPlace = -149 := by decide
theorem D_L : D.leastPlace = -1074 := by decide
theorem S_B : S.binade = 8388608 := by decide
theorem D_B : D.binade = 4503599627370496 := by decide
theorem S_I : S.infRung = 2139095040 := by decide
theorem D_I : D.infRung = 9218868437227405312 := by decide
theorem S_W : S.signWeight = 2147483648 := by decide
theorem D_W : D.signWeight = 9223372036854775808 := by decide

/-- a float32's least place lies so far above a float64's -/
def sh : Nat := 925
theorem sh_eq : sh = 925 := rfl
attribute [irreducible] sh

/-- the float64 of a float32 -/
def up (x : Nat) : Nat := D.write (S.read x)

def big : Nat := 1203
theorem big_eq : big = 1203 := rfl
attribute [irreducible] big
theorem mg_inf_lt (r : Nat) (h : r < S.infRung) : ∃ r', mg D r' = mg S r * 2 ^ sh ∧ r' < D.infRung := by
  obtain ⟨n, d, e, hn, hd⟩ := mg_short S r
  obtain ⟨r', hr'⟩ := repr D n (d + sh) (by rw [D_B]; rw [S_B] at hn; omega)
  refine ⟨r', by rw [hr', e, Nat.mul_assoc, ← Nat.pow_add], ?_⟩
  have hd' : d ≤ 253 := by
    rw [S_B] at hd; rw [S_I] at h
    have : r / 8388608 ≤ 254 := by omega
    omega
  have h1 : mg D r' < 2 ^ big := by
    rw [hr']
    have a1 : n * 2 ^ (d + sh) < 2 ^ 24 * 2 ^ (d + sh) := Nat.mul_lt_mul_of_pos_right (by rw [S_B] at hn; omega) (Nat.two_pow_pos _)
    rw [← Nat.pow_add] at a1
    exact Nat.lt_of_lt_of_le a1 (Nat.pow_le_pow_right (by omega) (by rw [sh_eq, big_eq]; omega))
  have h2 : 2 ^ big ≤ mg D D.infRung := by
    obtain ⟨q, e2, hq⟩ : ∃ q, D.infRung = q * D.binade + D.binade ∧ q = 2046 := ⟨2046, by rw [D_I, D_B], rfl⟩
    rw [e2, mg_kept D q D.binade (by omega) (Or.inr (Nat.le_refl _)), D_B, show (4503599627370496 : Nat) = 2 ^ 52 from rfl, ← Nat.pow_add]
    exact Nat.pow_le_pow_right (by omega) (by rw [big_eq]; omega)
  exact mg_lt_iff.1 (Nat.lt_of_lt_of_le h1 h2)

theorem up_fin {x : Nat} (h : fin S x = true) : floatToFloatBits .f32 x .f64 = some (up x) ∧ fin D (up x) = true ∧ ng D (up x) = ng S x ∧ mg D (rg D (up x)) = mg S (rg S x) * 2 ^ sh ∧ up x < 2 ^ 64 := by
  obtain ⟨m, i, e1, h1⟩ := read_fin S (fin_iff.1 h)
  obtain ⟨r', hr', hlt⟩ := mg_inf_lt _ (fin_iff.1 h)
  obtain ⟨r, hr, hR⟩ := nearest_spec D (fine .f64).p (ng S x) m (S.leastPlace + i)
  have e3 : (S.leastPlace + (i : Int) - D.leastPlace).toNat = sh + i := by rw [S_L, D_L, sh_eq]; omega
  have e4 : (D.leastPlace - (S.leastPlace + (i : Int))).toNat = 0 := by rw [S_L, D_L]; omega
  rw [e3, e4, Nat.pow_zero] at hR
  have hrr : r = r' := by
    apply hR.eq_of (by omega)
    rw [hr', ← h1, Nat.one_mul, Nat.mul_assoc, ← Nat.pow_add]; congr 2; omega
  subst hrr
  have hup : up x = out D (ng S x) r := by
    unfold up; rw [e1]; exact hr
  have hmin : min r D.infRung = r := by omega
  have hrg : rg D (up x) = r := by rw [hup, out_rg, hmin]
  refine ⟨?_, ?_, ?_, ?_, ?_⟩
  · unfold floatToFloatBits
    rw [if_neg (by decide), show FloatKind.f32.decode x = _ from e1]
    simp only
    have : (FloatKind.f64.decode (FloatKind.f64.encode (.number (ng S x) m (S.leastPlace + ↑i)))).isInfinity = false := by
      show (D.read (D.nearest (ng S x) m (S.leastPlace + ↑i))).isInfinity = false
      rw [hr]
      obtain ⟨m2, i2, e2, _⟩ := read_fin D (w := out D (ng S x) r) (by rw [out_rg, hmin]; exact hlt)
      rw [show D.word (ng S x) (min r D.infRung) = out D (ng S x) r from rfl, e2]; rfl
    rw [this]; simp only [Bool.false_eq_true, if_false]; unfold up; rw [e1]; rfl
  · rw [fin_iff, hrg]; exact hlt
  · rw [hup, out_ng]
  · rw [hrg, hr']
  · rw [hup]; exact out_lt D _ _

theorem up_inf {x : Nat} (h : rg S x = S.infRung) : floatToFloatBits .f32 x .f64 = some (up x) ∧ up x = inf D (ng S x) := by
  have e1 := read_inf S (fine .f32).e h
  refine ⟨?_, ?_⟩
  · unfold floatToFloatBits
    rw [if_neg (by decide), show FloatKind.f32.decode x = _ from e1]
    simp only; unfold up; rw [e1]; rfl
  · unfold up; rw [e1]; rfl

/-- WHAT A float32 THAT IS NO NaN IS AS A float64 -/
theorem up_num {x : Nat} (h : num S x = true) : floatToFloatBits .f32 x .f64 = some (up x) ∧ num D (up x) = true ∧ ng D (up x) = ng S x ∧ up x < 2 ^ 64 := by
  by_cases hf : fin S x = true
  · obtain ⟨h1, h2, h3, h4, h5⟩ := up_fin hf
    exact ⟨h1, num_of_fin h2, h3, h5⟩
  · have hr : rg S x = S.infRung := by
      have := num_iff.1 h; have := mt fin_iff.2 hf; omega
    obtain ⟨h1, h2⟩ := up_inf hr
    refine ⟨h1, by rw [h2]; exact num_inf _ _, by rw [h2]; exact ng_inf _ _, by rw [h2]; exact D.word_lt _ D.infRung_lt⟩

theorem up_rg {x y : Nat} (hx : num S x = true) (hy : num S y = true) : (rg D (up x) < rg D (up y) ↔ rg S x < rg S y) := by
  have hx' := num_iff.1 hx
  have hy' := num_iff.1 hy
  by_cases hf : rg S x < S.infRung
  · obtain ⟨_, h2, _, h4, _⟩ := up_fin (fin_iff.2 hf)
    by_cases hg : rg S y < S.infRung
    · obtain ⟨_, g2, _, g4, _⟩ := up_fin (fin_iff.2 hg)
      rw [← mg_lt_iff (f := D), h4, g4, ← mg_lt_iff (f := S) (r := rg S x) (s := rg S y)]
      exact Nat.mul_lt_mul_right (Nat.two_pow_pos sh)
    · have hr : rg S y = S.infRung := by omega
      rw [(up_inf hr).2, rg_inf]
      have := fin_iff.1 h2
      omega
  · have hr : rg S x = S.infRung := by omega
    rw [(up_inf hr).2, rg_inf]
    by_cases hg : rg S y < S.infRung
    · obtain ⟨_, g2, _, g4, _⟩ := up_fin (fin_iff.2 hg)
      have := fin_iff.1 g2
      omega
    · have hr2 : rg S y = S.infRung := by omega
      rw [(up_inf hr2).2, rg_inf]; omega

theorem up_rg_zero {x : Nat} (hx : num S x = true) : rg D (up x) = 0 ↔ rg S x = 0 := by
  have h0 : rg D (up 0) = 0 := by
    have e := (up_fin (x := 0) (by rw [fin_iff, rg_zero, S_I]; omega)).2.2.2.1
    rw [rg_zero, mg_zero, Nat.zero_mul] at e
    exact mg_inj (f := D) (by rw [e, mg_zero])
  have := up_rg (num_zero S) hx
  rw [h0, rg_zero] at this
  omega

/-- a float32's word comes back from its float64 -/
theorem up_inj {x y : Nat} (hx : num S x = true) (hy : num S y = true) (wx : x < 2 ^ 32) (wy : y < 2 ^ 32) (h : up x = up y) : x = y := by
  have h1 := up_rg hx hy
  have h2 := up_rg hy hx
  rw [h] at h1 h2
  apply word_inj S wx wy
  · rw [← (up_num hx).2.2.1, ← (up_num hy).2.2.1, h]
  · omega

theorem up_key {x y : Nat} (hx : num S x = true) (hy : num S y = true) : (key D (up x) < key D (up y) ↔ key S x < key S y) ∧ (key D (up x) = key D (up y) ↔ key S x = key S y) := by
  have a1 := up_rg hx hy
  have a2 := up_rg hy hx
  have z1 := up_rg_zero hx
  have z2 := up_rg_zero hy
  have n1 := (up_num hx).2.2.1
  have n2 := (up_num hy).2.2.1
  unfold key sg
  rw [n1, n2]
  cases ng S x <;> cases ng S y <;> simp <;> omega

/-- two float64 words are the same: one word, or both NaN -/
def smB (a b : Nat) : Bool := if num D a && num D b then a == b else !num D a && !num D b
theorem smB_refl (a : Nat) : smB a a = true := by unfold smB; cases num D a <;> simp
theorem smB_nan {a b : Nat} (ha : num D a = false) (hb : num D b = false) : smB a b = true := by simp [smB, ha, hb]
end Go.Proofs.YtpbklllmplimaaaDoor.Fl
