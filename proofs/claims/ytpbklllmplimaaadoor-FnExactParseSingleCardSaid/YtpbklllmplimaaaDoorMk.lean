/- A single made of its sign, its mantissa and its exponent: the plain law. -/
import Derived.Test.YtpbklllmplimaaaDoorPosW
namespace Go.Proofs.YtpbklllmplimaaaDoor.same
open Go.RowKit Fl Ieee
set_option linter.unusedVariables false

/-- the rung of m * 2 ^ e -/
noncomputable def mkR (m e : Int) : Nat := if h : m.toNat < 2 * S.binade then (repr S m.toNat (e + 149).toNat h).choose else 0
theorem mkR_spec {m : Int} (e : Int) (h0 : 0 ≤ m) (h1 : m ≤ 16777215) : mg S (mkR m e) = m.toNat * 2 ^ (e + 149).toNat := by
  unfold mkR
  have h : m.toNat < 2 * S.binade := by rw [S_B]; omega
  rw [dif_pos h]
  exact (repr S m.toNat (e + 149).toNat h).choose_spec
def inM (m : Int) : Bool := decide (0 ≤ m ∧ m ≤ 16777215)
def inE (e : Int) : Bool := decide (-149 ≤ e ∧ e ≤ 127)
/-- what MakeSingle tells -/
noncomputable def mkOk (s : ByteArray) (m e : Int) : Bool := sgnOk s && inM m && inE e && decide (mkR m e < S.infRung)
noncomputable def mkV (s : ByteArray) (m e : Int) : Nat := if mkOk s m e then sgnV s (mkR m e) else 0
def MkE (s : ByteArray) (m e : Int) (w : World) (en : Ending) (w' : World) : Prop := en = .returned (.tuple #[.float .f32 (mkV s m e), .bool (mkOk s m e)]) ∧ ∃ p, w' = w.drewN p

theorem mkOk_sign {s : ByteArray} {m e : Int} (h : sgnOk s = false) : mkOk s m e = false := by unfold mkOk; rw [h]; rfl
theorem mkOk_m {s : ByteArray} {m e : Int} (h : inM m = false) : mkOk s m e = false := by unfold mkOk; rw [h]; simp
theorem mkOk_e {s : ByteArray} {m e : Int} (h : inE e = false) : mkOk s m e = false := by unfold mkOk; rw [h]; simp
theorem mkOk_r {s : ByteArray} {m e : Int} (h : ¬ mkR m e < S.infRung) : mkOk s m e = false := by unfold mkOk; rw [decide_eq_false h]; simp
theorem mkOk_good {s : ByteArray} {m e : Int} (h1 : sgnOk s = true) (h2 : inM m = true) (h3 : inE e = true) (h4 : mkR m e < S.infRung) : mkOk s m e = true := by unfold mkOk; rw [h1, h2, h3, decide_eq_true h4]; rfl
theorem mkV_no {s : ByteArray} {m e : Int} (h : mkOk s m e = false) : mkV s m e = 0 := by unfold mkV; rw [h]; rfl
theorem mkV_yes {s : ByteArray} {m e : Int} (h : mkOk s m e = true) : mkV s m e = sgnV s (mkR m e) := by unfold mkV; rw [h]; rfl

/-- what the two packages ask of the float64 that is the number -/
theorem mk_down {m e : Int} {z x : Nat} (h0 : 0 ≤ m) (h1 : m ≤ 16777215) (e0 : -149 ≤ e) (hz : isD z (m.toNat * 2 ^ x)) (hx : (x : Int) = e64 + e) :
    (mkR m e < S.infRung → floatToFloatBits .f64 z .f32 = some (mkR m e) ∧ up (mkR m e) = z ∧ floatToFloatBits .f32 (mkR m e) .f64 = some z) ∧
    (¬ mkR m e < S.infRung → ∀ y, num S y = true → (D.order (up y) z = none ∨ D.order (up y) z = some .lt ∨ D.order (up y) z = some .gt)) := by
  have hr := mkR_spec e h0 h1
  have hxs : x = sh + (e + 149).toNat := by rw [sh_eq]; rw [e64_eq] at hx; omega
  subst hxs
  constructor
  · intro hi
    have hd := down_exact hz hr
    rw [if_pos hi] at hd
    have hu := up_back hz hr hi
    have := (up_num (gnum hi).1).1
    rw [hu] at this
    exact ⟨hd, hu, this⟩
  · intro hi y hy
    have hk := up_ne hz hr hi hy
    have hn := (up_num hy).2.1
    rcases Int.lt_trichotomy (key D (up y)) (key D z) with h | h | h
    · exact Or.inr (Or.inl (ordLt (k := .f64) hn (gnum hz.1).1 h))
    · exact absurd h hk
    · exact Or.inr (Or.inr (ordGt (k := .f64) hn (gnum hz.1).1 h))
/-- whatever single comes of it where it does not fit: back again it is another number -/
theorem mk_over {P : Program} {m e : Int} {z x : Nat} (h0 : 0 ≤ m) (h1 : m ≤ 16777215) (e0 : -149 ≤ e) (hz : isD z (m.toNat * 2 ^ x)) (hx : (x : Int) = e64 + e) (hi : ¬ mkR m e < S.infRung)
    (t4 t8 : TypeId) (hs4 : (P.underlying t4).isSome = true) (hs8 : P.underlying t8 = some (.float .f64)) (y : Nat) (hy : y < 2 ^ 32) (w : World) (n : Nat) :
    ∃ u q, (convert t4 t8 (.float .f32 y)).run P (w.drewN n) = .ok (.float .f64 u) (w.drewN q) ∧ (D.order u z = none ∨ D.order u z = some .lt ∨ D.order u z = some .gt) := by
  cases hn : num S y with
  | true =>
    exact ⟨up y, n, run_convert_float_float _ t4 t8 .f32 .f64 y (up y) hs4 hs8 (up_num hn).1, (mk_down h0 h1 e0 hz hx).2 hi y hn⟩
  | false =>
    obtain ⟨nb, hnb, hrun⟩ := run_conv_nan P (s := .f32) (k := .f64) (by decide) hn t4 t8 hs4 hs8
    exact ⟨_, n + 1, hrun _, Or.inl (ordNanL (k := .f64) (hnb _).1 z)⟩
theorem below_dn {B : Nat} {w w' : World} (h : Below B w w') (n : Nat) : Below B w (w'.drewN n) := ⟨h.os, h.tape, h.output, h.size, h.block⟩
end Go.Proofs.YtpbklllmplimaaaDoor.same
