/- The single that a decimal text tells. -/
import Derived.Test.YtpbklllmplimaaaDoorDecL
import Derived.Test.YtpbklllmplimaaaDoorPosW
namespace Go.Proofs.YtpbklllmplimaaaDoor.dec
open Go.RowKit Fl Ieee same
set_option linter.unusedVariables false

/-- 10 ^ k as float64 -/
def tenW (k : Nat) : Nat := floatOfInt .f64 ((10 ^ k : Nat) : Int)
theorem ten_lt {k : Nat} (h : k ≤ 15) : 10 ^ k < 9007199254740992 := by
  have : 10 ^ k ≤ 10 ^ 15 := Nat.pow_le_pow_right (by omega) h
  omega
theorem tenW_isD {k : Nat} (h : k ≤ 15) : isD (tenW k) (10 ^ k * 2 ^ e64) := ofInt64 (ten_lt h)
theorem mg_ten64 : mg D 4621819117588971520 = 10 * 2 ^ e64 := by
  have := mg_at (d := 1025) (c := 5629499534213120) (k := 49) (q := 10) (e := e64) (by decide) (by omega) (by omega) (by rw [e64_eq])
  exact this
theorem tenW_zero : tenW 0 = 4607182418800017408 := by
  have h := tenW_isD (k := 0) (by omega)
  rw [Nat.pow_zero, Nat.one_mul] at h
  exact h.eq one_isD
theorem ten_step {k : Nat} (h : k ≤ 14) : floatBits .mul .f64 (tenW k) 4621819117588971520 = some (tenW (k + 1)) := by
  have h1 := tenW_isD (k := k) (by omega)
  have h2 := tenW_isD (k := k + 1) (by omega)
  refine mul_exact h1.1 (by rw [D_I]; omega) h2.1 ?_
  rw [h1.2, h2.2, mg_ten64, Nat.pow_succ]
  generalize 2 ^ e64 = T
  generalize 10 ^ k = K
  rw [Nat.mul_assoc K T, Nat.mul_left_comm T 10 T, ← Nat.mul_assoc K 10, Nat.mul_comm T (K * 10 * T), Nat.mul_assoc (K * 10)]

/-- the quotient, and the single that comes of it -/
def quoW (d k : Nat) : Nat := (floatBits .quo .f64 (floatOfInt .f64 (d : Int)) (tenW k)).getD 0
def rdF (d k : Nat) : Nat := (floatToFloatBits .f64 (quoW d k) .f32).getD 0
theorem rd_run {d k : Nat} (hd : d < 1000000000000000) (hk : k ≤ 15) :
    floatBits .quo .f64 (floatOfInt .f64 (d : Int)) (tenW k) = some (quoW d k) ∧ floatToFloatBits .f64 (quoW d k) .f32 = some (rdF d k) ∧ rdF d k < 2 ^ 32 := by
  have ha := ofInt64 (n := d) (by omega)
  have hb := tenW_isD hk
  obtain ⟨a1, a2⟩ := gpos ha.1
  obtain ⟨b1, b2⟩ := gpos hb.1
  have hb0 : 0 < mg D (tenW k) := by rw [hb.2]; exact Nat.mul_pos (Nat.pow_pos (by omega)) (Nat.two_pow_pos _)
  have hbz : tenW k ≠ 0 := by intro h; rw [h, mg_zero] at hb0; omega
  obtain ⟨r, e, R⟩ := div_fin (f := D) (fine .f64) (x := floatOfInt .f64 (d : Int)) (y := tenW k) (by rw [a1]; exact ha.1) (by rw [b1]; exact hb.1) (by rw [b1]; exact hbz)
  rw [a1, b1, dn_D, ha.2, hb.2] at R
  rw [a2, b2] at e
  obtain ⟨z, hz⟩ := isD_ex (n := d) (j := e64) (by omega) (by rw [e64_eq]; omega)
  have hrz : r ≤ z := R.le_of (Nat.mul_pos (Nat.pow_pos (by omega)) (Nat.two_pow_pos _)) (by
    rw [hz.2]
    have h10 : 1 ≤ 10 ^ k := Nat.pow_pos (by omega)
    have h3 : d * 2 ^ e64 ≤ 10 ^ k * (d * 2 ^ e64) := Nat.le_mul_of_pos_left _ h10
    have h4 := Nat.mul_le_mul_right (2 ^ e64) h3
    rw [Nat.mul_right_comm (10 ^ k) (d * 2 ^ e64) (2 ^ e64)] at h4
    exact h4)
  have hrI : r < D.infRung := by have := hz.1; omega
  have hq : floatBits .quo .f64 (floatOfInt .f64 (d : Int)) (tenW k) = some r := by
    rw [show floatBits .quo .f64 (floatOfInt .f64 (d : Int)) (tenW k) = D.div (floatOfInt .f64 (d : Int)) (tenW k) from rfl, e]
    simp [gout hrI]
  have hqw : quoW d k = r := by unfold quoW; rw [hq]; rfl
  rw [hqw]
  have hml : mg D r ≤ d * 2 ^ e64 := by have := mg_le (f := D) hrz; rw [hz.2] at this; exact this
  -- the single
  obtain ⟨c1, c2⟩ := gpos hrI
  obtain ⟨m, i, e1, h1⟩ := read_fin D (w := r) (by rw [c1]; exact hrI)
  rw [c1] at h1
  rw [c2] at e1
  obtain ⟨p, hp, hP⟩ := nearest_spec S (fine .f32).p false m (D.leastPlace + i)
  have e3 : (D.leastPlace + (i : Int) - S.leastPlace).toNat = i - sh := by rw [S_L, D_L, sh_eq]; omega
  have e4 : (S.leastPlace - (D.leastPlace + (i : Int))).toNat = sh - i := by rw [S_L, D_L, sh_eq]; omega
  rw [e3, e4] at hP
  obtain ⟨s, hs⟩ := repr S 1 (50 + 149) (by rw [S_B]; omega)
  have hps : p ≤ s := hP.le_of (Nat.two_pow_pos _) (by
    rw [hs, Nat.one_mul]
    have hd2 : d ≤ 2 ^ 50 := by omega
    have h5 : m * 2 ^ i ≤ 2 ^ 50 * 2 ^ e64 := by rw [h1]; exact Nat.le_trans hml (Nat.mul_le_mul_right _ hd2)
    rw [← Nat.pow_add] at h5
    refine Nat.le_of_mul_le_mul_right (c := 2 ^ sh) ?_ (Nat.two_pow_pos _)
    have he : 50 + e64 = 50 + 149 + sh := by rw [e64_eq, sh_eq]
    rw [he] at h5
    rcases Nat.le_total sh i with hk | hk
    · have p1 : sh - i = 0 := by omega
      rw [p1, Nat.pow_zero, Nat.one_mul, ← Nat.pow_add]
      have p2 : m * 2 ^ (i - sh) * 2 ^ sh = m * 2 ^ i := by rw [Nat.mul_assoc, ← Nat.pow_add, Nat.sub_add_cancel hk]
      rw [p2]; exact h5
    · have p1 : i - sh = 0 := by omega
      rw [p1, Nat.pow_zero, Nat.mul_one]
      have p2 : m * 2 ^ sh = 2 ^ (sh - i) * (m * 2 ^ i) := by
        rw [Nat.mul_left_comm, ← Nat.pow_add, Nat.sub_add_cancel hk]
      rw [p2, Nat.mul_assoc, ← Nat.pow_add]
      exact Nat.mul_le_mul_left _ h5)
  have hsI : s < S.infRung := by
    have h6 : mg S 1677721600 = 2 ^ 222 := by
      have := mg_kept S 199 8388608 (by rw [S_B]; omega) (Or.inr (by rw [S_B]; omega))
      rw [S_B] at this
      rw [show (1677721600 : Nat) = 199 * 8388608 + 8388608 from rfl, this, show (8388608 : Nat) = 2 ^ 23 from rfl, ← Nat.pow_add]
    have h7 : mg S s ≤ mg S 1677721600 := by rw [hs, h6, Nat.one_mul]; exact Nat.pow_le_pow_right (by omega) (by omega)
    have := mg_le_iff.1 h7
    rw [S_I]; omega
  have hpI : p < S.infRung := by omega
  have hconv : floatToFloatBits .f64 r .f32 = some p := by
    unfold floatToFloatBits
    rw [if_neg (by decide), show FloatKind.f64.decode r = _ from e1]
    simp only
    have hw : FloatKind.f32.encode (.number false m (D.leastPlace + ↑i)) = out S false p := hp
    rw [hw, gout hpI]
    have : (FloatKind.f32.decode p).isInfinity = false := by
      obtain ⟨m2, i2, e2, _⟩ := read_fin S (w := p) (by rw [(gpos hpI).1]; exact hpI)
      rw [show FloatKind.f32.decode p = S.read p from rfl, e2]; rfl
    rw [this]; rfl
  have hx : rdF d k = p := by unfold rdF; rw [hqw, hconv]; rfl
  rw [hx]
  exact ⟨hq, hconv, gpos_lt hpI⟩

/-- what ReadDecimal tells -/
def rest (s : ByteArray) : List UInt8 := s.data.toList.tail
def rdOk (s : ByteArray) : Bool := good (rest s) && sgnOk (s.extract 0 1)
def rdV (s : ByteArray) : Nat := if good (rest s) then sgnV (s.extract 0 1) (rdF (dv (figs (rest s))) (tl (rest s)).tail.length) else 0
def RdE (s : ByteArray) (w : World) (en : Ending) (w' : World) : Prop := en = .returned (.tuple #[.float .f32 (rdV s), .bool (rdOk s)]) ∧ Below w.heap.size w w'
theorem rd_bad {s : ByteArray} (h : good (rest s) = false) : rdOk s = false ∧ rdV s = 0 := by
  unfold rdOk rdV; rw [h]; exact ⟨rfl, rfl⟩
theorem rd_good {s : ByteArray} (h : good (rest s) = true) : rdOk s = sgnOk (s.extract 0 1) ∧ rdV s = sgnV (s.extract 0 1) (rdF (dv (figs (rest s))) (tl (rest s)).tail.length) := by
  unfold rdOk rdV; rw [h]; exact ⟨rfl, rfl⟩
theorem rest_len (s : ByteArray) : (rest s).length = s.size - 1 := by unfold rest; rw [List.length_tail]; rfl
theorem rest_get (s : ByteArray) (t : Nat) (h : t + 1 < s.size) : (rest s)[t]? = some s[t + 1] := by
  unfold rest
  rw [List.getElem?_tail, List.getElem?_eq_getElem (by simpa using h)]
  rfl
theorem dv_bound {r : List UInt8} (h : good r = true) : dv (figs r) < 1000000000000000 ∧ (tl r).tail.length ≤ 15 := by
  unfold good at h
  have h1 := of_decide_eq_true (Bool.and_eq_true_iff.1 h).2
  have h2 := (Bool.and_eq_true_iff.1 (Bool.and_eq_true_iff.1 h).1).2
  have h3 := dv_lt _ h2
  have h4 : 10 ^ (figs r).length ≤ 10 ^ 15 := Nat.pow_le_pow_right (by omega) h1
  refine ⟨by omega, ?_⟩
  unfold figs at h1
  rw [List.length_append] at h1
  omega
end Go.Proofs.YtpbklllmplimaaaDoor.dec
