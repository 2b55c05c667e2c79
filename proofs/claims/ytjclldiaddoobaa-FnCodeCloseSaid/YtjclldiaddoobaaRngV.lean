/- Contracts of ValueOf in both packages. -/
import Derived.Test.YtjclldiaddoobaaRngC
namespace Go.Proofs.Ytjclldiaddoobaa.rng
open Go.RowKit base Fl same
set_option linter.unusedVariables false

def inC (code : Int) : Bool := decide (-32767 ≤ code ∧ code ≤ 32767)
/-- what ValueOf tells -/
def valOk (n : Nat) (F D U : Nat → Nat) (a code : Int) : Bool := okAt n F D U a && inC code
def valV (n : Nat) (F D U : Nat → Nat) (a code : Int) : Nat := if valOk n F D U a code then valF code (F a.toNat) else 0

theorem good_fin {n : Nat} {F D U : Nat → Nat} {k : Nat} (hk : k < n) (h : okAt n F D U k = true) : rg S (F k) < S.infRung := by
  have hg : goodB n F D U = true := by unfold okAt at h; exact (Bool.and_eq_true_iff.1 h).1
  exact (okA_facts ((of_decide_eq_true hg).2 k hk).1).2.2.2.2.2.2
theorem valV_num (n : Nat) (F D U : Nat → Nat) (a code : Int) : num S (valV n F D U a code) = true := by
  unfold valV
  cases h : valOk n F D U a code with
  | false => exact num_zero _
  | true =>
    simp only [if_true]
    unfold valOk at h
    obtain ⟨h1, h2⟩ := Bool.and_eq_true_iff.1 h
    have h1' := h1
    unfold okAt at h1'
    obtain ⟨k, rfl, hk⟩ := inB_true (Bool.and_eq_true_iff.1 h1').2
    have h3 := of_decide_eq_true h2
    obtain ⟨r, r2, _, _, _, _, _, e⟩ := val_spec (n := code) (f := F (k : Int).toNat) (by omega) (by simpa using good_fin hk h1)
    rw [e]; exact out_num _ _ _

set_option maxHeartbeats 2000000 in
theorem spec_ValueOf (A : Option Addr) (n c : Nat) (F D U : Nat → Nat) (a code : Int) (w : World) (h : Rs w A n c F D U) :
    Calls Try.prog 20 #[.slice A n c, .int .i64 a, .int .i64 code] w fun e w' => e = .returned (.tuple #[.float .f32 (valV n F D U a code), .bool (valOk n F D U a code)]) ∧ Below w.heap.size w w' := by
  have hn : n ≤ 9223372036854775807 := Nat.le_trans h.1 h.2.1
  cases hg : goodB n F D U with
  | false =>
    have H0 : Hid (valOk n F D U a code = false) := by show _ = _; unfold valOk okAt; rw [hg]; rfl
    have H1 : Hid (valV n F D U a code = 0) := by show _ = _; unfold valV; rw [H0.out]; rfl
    go_enter Try.func20, Try.ntmps20
    go_wp2_with fail
    refine (spec_ok A n c F D U _ h).mono ?_
    rintro e w1 ⟨rfl, b1⟩
    rw [hg]
    go_wp2_with fail
    go_ret2
    exact ⟨by (rw [H1.out, H0.out] <;> rfl), b1⟩
  | true =>
  have e1 : RowKit.wrap64 ((n : Int) - 1) = (n : Int) - 1 := by unfold RowKit.wrap64; omega
  cases hi : inB n a with
  | false =>
    have H0 : Hid (valOk n F D U a code = false) := by show _ = _; unfold valOk okAt; rw [hg, hi]; rfl
    have H1 : Hid (valV n F D U a code = 0) := by show _ = _; unfold valV; rw [H0.out]; rfl
    go_enter Try.func20, Try.ntmps20
    go_wp2_with fail
    refine (spec_ok A n c F D U _ h).mono ?_
    rintro e w1 ⟨rfl, b1⟩
    rw [hg]
    go_wp2_with fail
    refine (inR.l01In_any _ _ _ _).mono ?_
    rintro e w2 ⟨rfl, rfl⟩
    rw [show decide (0 ≤ a ∧ a ≤ (n : Int) - 1) = false from hi]
    go_wp2_with fail
    go_ret2
    exact ⟨by (rw [H1.out, H0.out] <;> rfl), b1⟩
  | true =>
  have hok : okAt n F D U a = true := by unfold okAt; rw [hg, hi]; rfl
  cases hc : inC code with
  | false =>
    have H0 : Hid (valOk n F D U a code = false) := by show _ = _; unfold valOk; rw [hok, hc]; rfl
    have H1 : Hid (valV n F D U a code = 0) := by show _ = _; unfold valV; rw [H0.out]; rfl
    go_enter Try.func20, Try.ntmps20
    go_wp2_with fail
    refine (spec_ok A n c F D U _ h).mono ?_
    rintro e w1 ⟨rfl, b1⟩
    rw [hg]
    go_wp2_with fail
    refine (inR.l01In_any _ _ _ _).mono ?_
    rintro e w2 ⟨rfl, rfl⟩
    rw [show decide (0 ≤ a ∧ a ≤ (n : Int) - 1) = true from hi]
    go_wp2_with fail
    refine (inR.l01In_any _ _ _ _).mono ?_
    rintro e w2 ⟨rfl, rfl⟩
    rw [show decide (-32767 ≤ code ∧ code ≤ 32767) = false from hc]
    go_wp2_with fail
    go_ret2
    exact ⟨by (rw [H1.out, H0.out] <;> rfl), b1⟩
  | true =>
    have hi' := hok
    unfold okAt at hi'
    obtain ⟨k, rfl, hk⟩ := inB_true (Bool.and_eq_true_iff.1 hi').2
    clear hi'
    have H0 : Hid (valOk n F D U k code = true) := by show _ = _; unfold valOk; rw [hok, hc]; rfl
    have H1 : Hid (valV n F D U k code = valF code (F k)) := by show _ = _; unfold valV; rw [H0.out]; rfl
    have hc3 := of_decide_eq_true hc
    obtain ⟨r, r2, -, -, -, e1', e2', -⟩ := val_spec (n := code) (f := F k) (by omega) (good_fin hk hok)
    have q1 := fun W : World => run_float_arith (P := Try.prog) W .quo 29 .f32 (floatOfInt .f32 code) 1191181824 _ e1'
    have q2 := fun W : World => run_float_arith (P := Try.prog) W .mul 29 .f32 _ (F k) _ e2'
    clear e1' e2' hc3
    obtain ⟨b, off, rfl, hlt, hcells⟩ := h.2.2 (by omega)
    have s1 := (hcells k hk).1.1
    clear hcells
    go_enter Try.func20, Try.ntmps20
    go_wp2_with fail
    refine (spec_ok _ n c F D U _ h).mono ?_
    rintro e w1 ⟨rfl, b1⟩
    rw [hg]
    go_wp2_with fail
    refine (inR.l01In_any _ _ _ _).mono ?_
    rintro e w2 ⟨rfl, rfl⟩
    rw [show decide (0 ≤ (k : Int) ∧ (k : Int) ≤ (n : Int) - 1) = true from hi]
    go_wp2_with fail
    refine (inR.l01In_any _ _ _ _).mono ?_
    rintro e w2 ⟨rfl, rfl⟩
    rw [show decide (-32767 ≤ code ∧ code ≤ 32767) = true from hc]
    have t1 := (b1.cell (p := ⟨b, off + k * 3, none⟩) hlt).trans s1
    have BB := Lib.hid b1
    clear s1 b1 h hlt hi hg hc hok e1
    go_wp2_with fail
    go_ret2
    exact ⟨by (rw [H1.out, H0.out] <;> rfl), BB.out⟩

set_option maxHeartbeats 2000000 in
theorem impl_ValueOf (A : Option Addr) (n c : Nat) (F D U : Nat → Nat) (a code : Int) (w : World) (h : Rs w A n c F D U) :
    Calls Try.prog 21 #[.slice A n c, .int .i64 a, .int .i64 code] w fun e w' => e = .returned (.tuple #[.float .f32 (valV n F D U a code), .bool (valOk n F D U a code)]) ∧ Below w.heap.size w w' := by
  have hn : n ≤ 9223372036854775807 := Nat.le_trans h.1 h.2.1
  cases hok : okAt n F D U a with
  | false =>
    have H0 : Hid (valOk n F D U a code = false) := by show _ = _; unfold valOk; rw [hok]; rfl
    have H1 : Hid (valV n F D U a code = 0) := by show _ = _; unfold valV; rw [H0.out]; rfl
    go_enter Try.func21, Try.ntmps21
    go_wp2_with fail
    refine (rangeOk_of A n c F D U a _ h hok).mono ?_
    rintro e w1 ⟨rfl, b1⟩
    go_wp2_with fail
    go_ret2
    exact ⟨by (rw [H1.out, H0.out] <;> rfl), b1⟩
  | true =>
  cases hc : inC code with
  | false =>
    have H0 : Hid (valOk n F D U a code = false) := by show _ = _; unfold valOk; rw [hok, hc]; rfl
    have H1 : Hid (valV n F D U a code = 0) := by show _ = _; unfold valV; rw [H0.out]; rfl
    go_enter Try.func21, Try.ntmps21
    go_wp2_with fail
    refine (rangeOk_of A n c F D U a _ h hok).mono ?_
    rintro e w1 ⟨rfl, b1⟩
    go_wp2_with fail
    refine (inR.within_any _ _ _ _).mono ?_
    rintro e w2 ⟨rfl, rfl⟩
    rw [show decide (-32767 ≤ code ∧ code ≤ 32767) = false from hc]
    go_wp2_with fail
    go_ret2
    exact ⟨by (rw [H1.out, H0.out] <;> rfl), b1⟩
  | true =>
    have hi' := hok
    unfold okAt at hi'
    obtain ⟨k, rfl, hk⟩ := inB_true (Bool.and_eq_true_iff.1 hi').2
    clear hi'
    have H0 : Hid (valOk n F D U k code = true) := by show _ = _; unfold valOk; rw [hok, hc]; rfl
    have H1 : Hid (valV n F D U k code = valF code (F k)) := by show _ = _; unfold valV; rw [H0.out]; rfl
    have hc3 := of_decide_eq_true hc
    obtain ⟨r, r2, -, -, -, e1', e2', -⟩ := val_spec (n := code) (f := F k) (by omega) (good_fin hk hok)
    have q1 := fun W : World => run_float_arith (P := Try.prog) W .quo 29 .f32 (floatOfInt .f32 code) 1191181824 _ e1'
    have q2 := fun W : World => run_float_arith (P := Try.prog) W .mul 29 .f32 _ (F k) _ e2'
    clear e1' e2' hc3
    obtain ⟨b, off, rfl, hlt, hcells⟩ := h.2.2 (by omega)
    have s1 := (hcells k hk).1.1
    clear hcells
    go_enter Try.func21, Try.ntmps21
    go_wp2_with fail
    refine (rangeOk_of _ n c F D U k _ h hok).mono ?_
    rintro e w1 ⟨rfl, b1⟩
    go_wp2_with fail
    refine (inR.within_any _ _ _ _).mono ?_
    rintro e w2 ⟨rfl, rfl⟩
    rw [show decide (-32767 ≤ code ∧ code ≤ 32767) = true from hc]
    have t1 := (b1.cell (p := ⟨b, off + k * 3, none⟩) hlt).trans s1
    have BB := Lib.hid b1
    clear s1 b1 h hlt hc hok
    go_wp2_with fail
    go_ret2
    exact ⟨by (rw [H1.out, H0.out] <;> rfl), BB.out⟩
end Go.Proofs.Ytjclldiaddoobaa.rng
