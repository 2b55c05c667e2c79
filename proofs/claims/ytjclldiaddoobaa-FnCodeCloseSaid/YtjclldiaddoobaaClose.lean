/- The value of a reading's code is near the reading: the plain law on rounded numbers. -/
import Derived.Test.YtjclldiaddoobaaRngV
import Derived.Test.YtjclldiaddoobaaRngH
import Derived.Test.YtjclldiaddoobaaPosW
namespace Go.Proofs.Ytjclldiaddoobaa.rng
open Go.RowKit base Fl same Ieee
set_option linter.unusedVariables false

theorem step_le {r K : Nat} (h : mg S r ≤ 8388608 * K) : 2 ^ (r / 8388608 - 1) ≤ 1 + K := by
  by_cases h0 : r < 8388608
  · rw [Nat.div_eq_of_lt h0]; simp
  · have e : mg S r = (8388608 + r % 8388608) * 2 ^ (r / 8388608 - 1) := by unfold mg; rw [S_B, if_neg h0]
    rw [e] at h
    generalize 2 ^ (r / 8388608 - 1) = g at *
    have h2 : 8388608 * g ≤ (8388608 + r % 8388608) * g := Nat.mul_le_mul_right _ (by omega)
    have h3 : 8388608 * g ≤ 8388608 * K := by omega
    have := Nat.le_of_mul_le_mul_left h3 (by omega)
    omega

/-- a rounded magnitude is near -/
theorem rnd_near {N E r K : Nat} (h : Rnd S N E r) (hK : mg S r ≤ 8388608 * K) : 2 * N ≤ 2 * (E * mg S r) + E * (1 + K) ∧ 2 * (E * mg S r) ≤ 2 * N + E * (1 + K) := by
  constructor
  · have h1 := h.up
    have h2 := mg_succ S r
    rw [S_B] at h2
    have h3 := step_le hK
    have h4 : E * (mg S r + mg S (r + 1)) ≤ E * (2 * mg S r + (1 + K)) := Nat.mul_le_mul_left _ (by omega)
    have h5 : E * (2 * mg S r + (1 + K)) = 2 * (E * mg S r) + E * (1 + K) := by rw [Nat.mul_add]; congr 1; rw [Nat.mul_left_comm]
    omega
  · rcases Nat.eq_zero_or_pos r with h0 | h0
    · subst h0; rw [mg_zero]; omega
    · obtain ⟨s, rfl⟩ : ∃ s, r = s + 1 := ⟨r - 1, by omega⟩
      have h1 := h.down s rfl
      have h2 := mg_succ S s
      rw [S_B] at h2
      have h3 := step_le (r := s) (K := K) (by have := mg_lt_succ S s; omega)
      have h4 : E * (2 * mg S (s + 1)) ≤ E * (mg S s + mg S (s + 1) + (1 + K)) := Nat.mul_le_mul_left _ (by omega)
      have h5 : E * (mg S s + mg S (s + 1) + (1 + K)) = E * (mg S s + mg S (s + 1)) + E * (1 + K) := by rw [Nat.mul_add]
      have h6 : E * (2 * mg S (s + 1)) = 2 * (E * mg S (s + 1)) := Nat.mul_left_comm ..
      omega

/-- the plain sum of the five errors -/
theorem near_sum {f X Q P c Q' V K T t : Nat} (hT : T = 8388608 * t) (ht : 1099511627776 ≤ t) (hf : 1099511627776 ≤ f)
    (a1 : 2 * (X * T) ≤ 2 * (f * Q) + f * (1 + t)) (a2 : 2 * (f * Q) ≤ 2 * (X * T) + f * (1 + t))
    (b1 : 2 * (32767 * Q) ≤ 2 * P + (1 + 32767 * t)) (b2 : 2 * P ≤ 2 * (32767 * Q) + (1 + 32767 * t))
    (c1 : c * T ≤ P) (c2 : P ≤ c * T + T)
    (d1 : 2 * (c * T) ≤ 2 * (32767 * Q') + 32767 * (1 + t)) (d2 : 2 * (32767 * Q') ≤ 2 * (c * T) + 32767 * (1 + t))
    (e1 : 2 * (Q' * f) ≤ 2 * (T * V) + T * (1 + K)) (e2 : 2 * (T * V) ≤ 2 * (Q' * f) + T * (1 + K)) (hK : 8388608 * K ≤ f + 8388608) :
    16000 * V ≤ 16000 * X + f ∧ 16000 * X ≤ 16000 * V + f := by
  have ht1 : 0 < t := by omega
  have hf1 : 0 < f := by omega
  have B1 := Nat.mul_le_mul_left f b1
  have B2 := Nat.mul_le_mul_left f b2
  have C1 := Nat.mul_le_mul_left f c1
  have C2 := Nat.mul_le_mul_left f c2
  have D1 := Nat.mul_le_mul_left f d1
  have D2 := Nat.mul_le_mul_left f d2
  have HK := Nat.mul_le_mul_left t hK
  have big1 : 1099511627776 * f ≤ t * f := Nat.mul_le_mul_right _ ht
  have big2 : t * 1099511627776 ≤ t * f := Nat.mul_le_mul_left _ hf
  subst hT
  have r1 : X * (8388608 * t) = 8388608 * (t * X) := by rw [Nat.mul_comm X, Nat.mul_assoc]
  have r2 : f * (1 + t) = f + t * f := by rw [Nat.mul_add, Nat.mul_one, Nat.mul_comm f t]
  have r3 : f * (2 * (32767 * Q)) = 65534 * (f * Q) := by rw [← Nat.mul_assoc 2, Nat.mul_left_comm]
  have r4 : f * (2 * P + (1 + 32767 * t)) = 2 * (f * P) + f + 32767 * (t * f) := by
    rw [Nat.mul_add, Nat.mul_add, Nat.mul_one, Nat.mul_left_comm f 2, Nat.mul_left_comm f 32767, Nat.mul_comm f t, Nat.add_assoc]
  have r5 : f * (2 * P) = 2 * (f * P) := Nat.mul_left_comm ..
  have r6 : f * (2 * (32767 * Q) + (1 + 32767 * t)) = 65534 * (f * Q) + f + 32767 * (t * f) := by
    rw [Nat.mul_add, Nat.mul_add, Nat.mul_one, ← Nat.mul_assoc 2, Nat.mul_left_comm f (2 * 32767), Nat.mul_left_comm f 32767, Nat.mul_comm f t, Nat.add_assoc]
  have r7 : f * (c * (8388608 * t)) = 8388608 * (t * (c * f)) := by
    rw [Nat.mul_left_comm c, Nat.mul_left_comm f, Nat.mul_comm f, Nat.mul_comm c t, Nat.mul_assoc]
  have r8 : f * (c * (8388608 * t) + 8388608 * t) = 8388608 * (t * (c * f)) + 8388608 * (t * f) := by
    rw [Nat.mul_add, r7, Nat.mul_left_comm f 8388608, Nat.mul_comm f t]
  have r9 : f * (2 * (c * (8388608 * t))) = 16777216 * (t * (c * f)) := by
    rw [Nat.mul_left_comm f 2, r7]; omega
  have r10 : f * (2 * (32767 * Q') + 32767 * (1 + t)) = 65534 * (Q' * f) + 32767 * f + 32767 * (t * f) := by
    rw [Nat.mul_add, ← Nat.mul_assoc 2, Nat.mul_left_comm f (2 * 32767), Nat.mul_left_comm f 32767, Nat.mul_add f 1, Nat.mul_one, Nat.mul_add, Nat.mul_comm f Q', Nat.mul_comm f t, Nat.add_assoc]
  have r11 : f * (2 * (32767 * Q')) = 65534 * (Q' * f) := by rw [← Nat.mul_assoc 2, Nat.mul_left_comm, Nat.mul_comm f Q']
  have r12 : f * (2 * (c * (8388608 * t)) + 32767 * (1 + t)) = 16777216 * (t * (c * f)) + 32767 * f + 32767 * (t * f) := by
    rw [Nat.mul_add, r9, Nat.mul_left_comm f 32767, Nat.mul_add f 1, Nat.mul_one, Nat.mul_add, Nat.mul_comm f t, Nat.add_assoc]
  have r13 : 8388608 * t * V = 8388608 * (t * V) := Nat.mul_assoc ..
  have r14 : 8388608 * t * (1 + K) = 8388608 * t + 8388608 * (t * K) := by rw [Nat.mul_add, Nat.mul_one, Nat.mul_assoc]
  have r15 : t * (8388608 * K) = 8388608 * (t * K) := Nat.mul_left_comm ..
  have r16 : t * (f + 8388608) = t * f + 8388608 * t := by rw [Nat.mul_add, Nat.mul_comm t 8388608]
  rw [r1, r2] at a1 a2
  rw [r3, r4] at B1
  rw [r5, r6] at B2
  rw [r7] at C1
  rw [r8] at C2
  rw [r9, r10] at D1
  rw [r11, r12] at D2
  rw [r13, r14] at e1 e2
  rw [r15, r16] at HK
  clear b1 b2 c1 c2 d1 d2 hK r1 r2 r3 r4 r5 r6 r7 r8 r9 r10 r11 r12 r13 r14 r15 r16
  have k1 : 16000 * (t * V) ≤ 16000 * (t * X) + t * f ∧ 16000 * (t * X) ≤ 16000 * (t * V) + t * f := by
    generalize t * V = tV at *
    generalize t * X = tX at *
    generalize t * f = tf at *
    generalize t * K = tK at *
    generalize t * (c * f) = tcf at *
    generalize f * Q = fQ at *
    generalize f * P = fP at *
    generalize Q' * f = qf at *
    clear ht hf
    omega
  constructor
  · refine Nat.le_of_mul_le_mul_left (c := t) ?_ ht1
    rw [Nat.mul_add, Nat.mul_left_comm, Nat.mul_left_comm t 16000]
    exact k1.1
  · refine Nat.le_of_mul_le_mul_left (c := t) ?_ ht1
    rw [Nat.mul_add, Nat.mul_left_comm, Nat.mul_left_comm t 16000]
    exact k1.2

theorem two_149 : (2 : Nat) ^ 149 = 8388608 * 2 ^ 126 := by rw [show (8388608 : Nat) = 2 ^ 23 from rfl, ← Nat.pow_add]

/-- a value stays in its range -/
theorem val_in {n : Nat} {F D U : Nat → Nat} {k : Nat} {c : Int} (hg : goodB n F D U = true) (hk : k < n) (hc : inC c = true) :
    valOk n F D U k c = true ∧ overB n F D U k (valV n F D U k c) = false ∧ valV n F D U k c = valF c (F k) := by
  have hok := okAt_of hg hk
  have h1 : valOk n F D U k c = true := by unfold valOk; rw [hok, hc]; rfl
  have h2 : valV n F D U k c = valF c (F k) := by unfold valV; rw [h1]; rfl
  refine ⟨h1, ?_, h2⟩
  have hc3 := of_decide_eq_true hc
  obtain ⟨f1, f2, f3, f4, f5, f6, f7⟩ := okA_facts ((of_decide_eq_true hg).2 k hk).1
  obtain ⟨r, r2, R1, R2, hr, _, _, e⟩ := val_spec (n := c) (f := F k) (by omega) f7
  have hfk : 0 < key S (F k) := by omega
  obtain ⟨p1, p2⟩ := key_pos.1 hfk
  have hr2 : r2 ≤ rg S (F k) := R2.le_of (Nat.two_pow_pos _) (by
    refine Nat.mul_le_mul_right _ ?_
    rw [← mg_one32]; exact mg_le hr)
  have hl : valF c (F k) < 2 ^ 32 := by rw [e]; exact out_lt S _ _
  have hh : Held (valF c (F k)) (F k) := ⟨by rw [e, out_rg]; omega, f7, p2, p1⟩
  have hn : num S (valF c (F k)) = true := by rw [e]; exact out_num _ _ _
  unfold overB
  rw [show ((k : Int).toNat) = k from by simp, h2, leB_held hl hn hh, hok]; rfl

theorem mg_16000 : mg D 4670021707350671360 = 16000 * 2 ^ e64 := by
  have := mg_at (d := 1035) (c := 8796093022208000) (k := 39) (q := 16000) (e := e64) (by decide) (by omega) (by omega) (by rw [e64_eq])
  exact this
theorem rg_16000 : rg D 4670021707350671360 = 4670021707350671360 := by unfold rg; rw [D_W]
theorem ng_16000 : ng D 4670021707350671360 = false := by unfold ng; rw [D_W]; decide

/-- a <= b on float64 -/
def leD (a b : Nat) : Bool := D.order a b == some .lt || D.order a b == some .eq
theorem leD_of {a b : Nat} (ha : num D a = true) (hb : num D b = true) (h : key D a ≤ key D b) : leD a b = true := by
  unfold leD
  rcases Int.lt_trichotomy (key D a) (key D b) with hk | hk | hk
  · rw [show D.order a b = some .lt from ordLt (k := .f64) ha hb hk]; rfl
  · rw [show D.order a b = some .eq from ordEq (k := .f64) ha hb hk]; rfl
  · omega

set_option maxRecDepth 100000 in
/-- two singles that are near, as float64: their difference against a sixteen-thousandth of the range -/
theorem near64 {v x f : Nat} {s s' : Bool} {V X : Nat} (hv : fin S v = true) (hx : fin S x = true) (hf : fin S f = true) (hf0 : rg S f ≠ 0) (hfn : ng S f = false)
    (hV : mg S (rg S v) = V) (hX : mg S (rg S x) = X) (hs : sg (ng S v) V = sg (ng S x) V)
    (h1 : 16000 * V ≤ 16000 * X + mg S (rg S f)) (h2 : 16000 * X ≤ 16000 * V + mg S (rg S f)) :
    ∃ d q, floatBits .sub .f64 (up v) (up x) = some d ∧ floatBits .quo .f64 (up f) 4670021707350671360 = some q ∧ leD d q = true ∧ leD (Op.negFloat .f64 d) q = true := by
  obtain ⟨_, v2, v3, v4, _⟩ := up_fin hv
  obtain ⟨_, x2, x3, x4, _⟩ := up_fin hx
  obtain ⟨_, f2, f3, f4, _⟩ := up_fin hf
  obtain ⟨rd, ed, RD⟩ := sub_fin (f := D) (fine .f64) (x := up v) (y := up x) (fin_iff.1 v2) (fin_iff.1 x2)
  have hf00 : rg D (up f) ≠ 0 := fun h => hf0 ((up_rg_zero (num_of_fin hf)).1 h)
  obtain ⟨rq, eq, RQ⟩ := div_fin (f := D) (fine .f64) (x := up f) (y := 4670021707350671360) (fin_iff.1 f2) (by rw [rg_16000, D_I]; omega) (by rw [rg_16000]; omega)
  rw [f4, dn_D, rg_16000, mg_16000] at RQ
  have hle : rd ≤ rq := by
    refine RD.le RQ (by omega) (Nat.mul_pos (by omega) (Nat.two_pow_pos _)) ?_
    have e1 : (sv D (up v) - sv D (up x)).natAbs = (sg (ng S x) V - sg (ng S x) X).natAbs * 2 ^ sh := by
      unfold sv
      rw [v3, x3, v4, x4, hV, hX, sg_mul, sg_mul, hs, ← Int.sub_mul, Int.natAbs_mul, Int.natAbs_natCast]
    have e2 : 16000 * (sg (ng S x) V - sg (ng S x) X).natAbs ≤ mg S (rg S f) := by
      unfold sg; split <;> omega
    rw [e1]
    generalize (sg (ng S x) V - sg (ng S x) X).natAbs = dd at *
    generalize mg S (rg S f) = ff at *
    have p1 : dd * 2 ^ sh * (16000 * 2 ^ e64) = 16000 * dd * (2 ^ sh * 2 ^ e64) := by
      rw [Nat.mul_assoc, Nat.mul_comm 16000 dd, Nat.mul_assoc dd, Nat.mul_left_comm (2 ^ sh)]
    have p2 : ff * 2 ^ sh * 2 ^ e64 * 1 = ff * (2 ^ sh * 2 ^ e64) := by rw [Nat.mul_one, Nat.mul_assoc]
    rw [p1, p2]
    exact Nat.mul_le_mul_right _ e2
  refine ⟨_, _, ed, eq, ?_, ?_⟩
  · refine leD_of (out_num _ _ _) (out_num _ _ _) ?_
    unfold key
    rw [out_rg, out_ng, out_rg, out_ng, f3, hfn, ng_16000]
    generalize (if sv D (up v) - sv D (up x) = 0 then ng D (up v) && !ng D (up x) else decide (sv D (up v) - sv D (up x) < 0)) = b
    cases b <;> simp [sg] <;> omega
  · have hl : out D (if sv D (up v) - sv D (up x) = 0 then ng D (up v) && !ng D (up x) else decide (sv D (up v) - sv D (up x) < 0)) rd < 2 ^ FloatKind.f64.format.width := out_lt D _ _
    refine leD_of ((num_neg .f64 hl).trans (out_num _ _ _)) (out_num _ _ _) ?_
    rw [show key D (Op.negFloat .f64 _) = -key D _ from key_negF .f64 hl]
    unfold key
    rw [out_rg, out_ng, out_rg, out_ng, f3, hfn, ng_16000]
    generalize (if sv D (up v) - sv D (up x) = 0 then ng D (up v) && !ng D (up x) else decide (sv D (up v) - sv D (up x) < 0)) = b
    cases b <;> simp [sg] <;> omega

/-- a range's end is not small -/
theorem full_lo {n : Nat} {F D U : Nat → Nat} {k : Nat} (hg : goodB n F D U = true) (hk : k < n) : 1099511627776 ≤ mg S (rg S (F k)) := by
  have h := ((of_decide_eq_true hg).2 k hk).1
  obtain ⟨f1, f2, f3, f4, f5, f6, f7⟩ := okA_facts h
  obtain ⟨p1, p2⟩ := key_pos.1 (show 0 < key S (F k) by omega)
  unfold okA at h
  simp only [Bool.and_eq_true] at h
  obtain ⟨_, _, h2⟩ := geB_iff.1 h.1.2
  obtain ⟨_, _, km, _⟩ := posw (show 228737632 < S.infRung by rw [S_I]; omega)
  have e : key S (F k) = (rg S (F k) : Int) := by unfold key sg; rw [p1]; simp
  rw [km, e] at h2
  have h3 : mg S 228737632 ≤ mg S (rg S (F k)) := mg_le (by omega)
  have h4 := mg_kept S 26 10633824 (by rw [S_B]; omega) (Or.inr (by rw [S_B]; omega))
  rw [S_B] at h4
  rw [show (228737632 : Nat) = 26 * 8388608 + 10633824 from rfl, h4] at h3
  omega

set_option maxRecDepth 100000 in
theorem close_spec {n : Nat} {F D U : Nat → Nat} {k x : Nat} (hg : goodB n F D U = true) (hk : k < n) (hx : x < 2 ^ 32) (hc : codeOk n F D U k x = true) :
    inC (codeV n F D U k x) = true ∧ fin S x = true ∧ fin S (F k) = true ∧ ∃ d q, floatBits .sub .f64 (up (valV n F D U k (codeV n F D U k x))) (up x) = some d ∧ floatBits .quo .f64 (up (F k)) 4670021707350671360 = some q ∧ leD d q = true ∧ leD (Op.negFloat .f64 d) q = true := by
  have hok := okAt_of hg hk
  have ho : overB n F D U k x = false := by unfold codeOk at hc; rw [hok] at hc; simpa using hc
  have hh := code_held hx hk hok ho
  obtain ⟨r, r2, ⟨R1, R2, hr, hr2⟩, _, _, _, hcd, hb⟩ := code_spec hh
  have hcv : codeV n F D U k x = sg (ng S x) (mg S r2 / 2 ^ 149) := by
    unfold codeV; rw [hc, if_pos rfl, show ((k : Int).toNat) = k from by simp, hcd]
  have hin : inC (codeV n F D U k x) = true := by
    rw [hcv]; unfold inC; refine decide_eq_true ?_
    generalize mg S r2 / 2 ^ 149 = cc at *
    unfold sg; split <;> omega
  have hfx : fin S x = true := fin_iff.2 (by have := hh.le; have := hh.lt; omega)
  have hff : fin S (F k) = true := fin_iff.2 hh.lt
  refine ⟨hin, hfx, hff, ?_⟩
  obtain ⟨_, _, hvv⟩ := val_in hg hk hin
  rw [hvv, hcv]
  have hna : (sg (ng S x) (mg S r2 / 2 ^ 149)).natAbs = mg S r2 / 2 ^ 149 := natAbs_sg _ _
  obtain ⟨q, v, Q1, Q2, hq, _, _, e⟩ := val_spec (n := sg (ng S x) (mg S r2 / 2 ^ 149)) (f := F k) (by rw [hna]; exact hb) hh.lt
  rw [hna] at Q1
  have hv : v ≤ rg S (F k) := Q2.le_of (Nat.two_pow_pos _) (by
    refine Nat.mul_le_mul_right _ ?_
    rw [← mg_one32]; exact mg_le hq)
  have hvI : min v S.infRung = v := by have := hh.lt; omega
  have hvr : rg S (valF (sg (ng S x) (mg S r2 / 2 ^ 149)) (F k)) = v := by rw [e, out_rg, hvI]
  have hvn : ng S (valF (sg (ng S x) (mg S r2 / 2 ^ 149)) (F k)) = decide (sg (ng S x) (mg S r2 / 2 ^ 149) < 0) := by rw [e, out_ng, hh.pos, Bool.xor_false]
  have hvf : fin S (valF (sg (ng S x) (mg S r2 / 2 ^ 149)) (F k)) = true := fin_iff.2 (by rw [hvr]; have := hh.lt; omega)
  have hrm : mg S r ≤ 8388608 * 2 ^ 126 := by rw [← two_149, ← mg_one32]; exact mg_le hr
  have hqm : mg S q ≤ 8388608 * 2 ^ 126 := by rw [← two_149, ← mg_one32]; exact mg_le hq
  have hr2m : mg S r2 ≤ 8388608 * (32767 * 2 ^ 126) := by
    have := mg_le (f := S) hr2
    rw [mg_K, two_149] at this
    rw [Nat.mul_left_comm]; exact this
  have hvm : mg S v ≤ 8388608 * (mg S (rg S (F k)) / 8388608 + 1) := by
    have := mg_le (f := S) hv
    omega
  obtain ⟨a1, a2⟩ := rnd_near R1 hrm
  obtain ⟨b1, b2⟩ := rnd_near R2 hr2m
  obtain ⟨d1, d2⟩ := rnd_near Q1 hqm
  obtain ⟨e1, e2⟩ := rnd_near Q2 hvm
  have hT := Nat.two_pow_pos 149
  have hz : mg S r2 / 2 ^ 149 = 0 → mg S v = 0 := by
    intro h0
    rw [h0, Nat.zero_mul] at Q1
    have q0 : q = 0 := Q1.eq_of (by omega) (by rw [mg_zero])
    subst q0
    rw [mg_zero, Nat.zero_mul] at Q2
    have v0 : v = 0 := Q2.eq_of hT (by rw [mg_zero])
    rw [v0, mg_zero]
  have hb1 : 2 * (32767 * mg S r) ≤ 2 * mg S r2 + (1 + 32767 * 2 ^ 126) ∧ 2 * mg S r2 ≤ 2 * (32767 * mg S r) + (1 + 32767 * 2 ^ 126) := by
    generalize (2 : Nat) ^ 149 = T at *
    constructor
    · refine Nat.le_of_mul_le_mul_left (c := T) ?_ hT
      rw [Nat.mul_add T, Nat.mul_left_comm T 2, Nat.mul_left_comm T 2 (mg S r2), show T * (32767 * mg S r) = mg S r * (32767 * T) from by rw [Nat.mul_comm, Nat.mul_assoc, Nat.mul_left_comm]]
      exact b1
    · refine Nat.le_of_mul_le_mul_left (c := T) ?_ hT
      rw [Nat.mul_add T, Nat.mul_left_comm T 2, Nat.mul_left_comm T 2 (32767 * mg S r), show T * (32767 * mg S r) = mg S r * (32767 * T) from by rw [Nat.mul_comm, Nat.mul_assoc, Nat.mul_left_comm]]
      exact b2
  have hdm := Nat.div_add_mod (mg S r2) (2 ^ 149)
  have hm := Nat.mod_lt (mg S r2) hT
  have hmain := near_sum (f := mg S (rg S (F k))) (X := mg S (rg S x)) (Q := mg S r) (P := mg S r2) (c := mg S r2 / 2 ^ 149) (Q' := mg S q) (V := mg S v) (K := mg S (rg S (F k)) / 8388608 + 1) (T := 2 ^ 149) (t := 2 ^ 126)
    two_149 (by decide) (full_lo hg hk) a1 a2 hb1.1 hb1.2 (Nat.div_mul_le_self _ _) (by rw [Nat.mul_comm]; omega) d1 d2 e1 e2 (by omega)
  refine near64 (s := false) (s' := false) hvf hfx hff hh.ne hh.pos rfl rfl ?_ (by rw [hvr]; exact hmain.1) (by rw [hvr]; exact hmain.2)
  rw [hvn, hvr]
  by_cases h0 : mg S r2 / 2 ^ 149 = 0
  · rw [hz h0]; unfold sg; split <;> split <;> rfl
  · congr 1
    unfold sg
    cases ng S x with
    | true => simp; omega
    | false => simp; omega
end Go.Proofs.Ytjclldiaddoobaa.rng
