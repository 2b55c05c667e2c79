/- Contracts of StepRange in both packages. -/
import Derived.Test.YtjclldiaddoobaaRngO
import Derived.IntWalk
namespace Go.Proofs.Ytjclldiaddoobaa.rng
open Go.RowKit base Fl same
set_option linter.unusedVariables false

def ltB (x y : Nat) : Bool := S.order x y == some .lt
/-- the next range, of a list that is right and a range that is there -/
def stepN (n : Nat) (D U : Nat → Nat) (k : Nat) (x : Nat) : Nat :=
  if k + 1 < n ∧ gtB (amt x) (U k) = true then k + 1 else if 0 < k ∧ ltB (amt x) (D k) = true then k - 1 else k
/-- what StepRange tells -/
def step (n : Nat) (F D U : Nat → Nat) (a : Int) (x : Nat) : Int := if okAt n F D U a then (stepN n D U a.toNat x : Int) else -1

theorem step_bad {n : Nat} {F D U : Nat → Nat} {a : Int} (x : Nat) (h : okAt n F D U a = false) : step n F D U a x = -1 := by unfold step; rw [h]; rfl
theorem step_ok {n : Nat} {F D U : Nat → Nat} {k : Nat} (x : Nat) (h : okAt n F D U k = true) : step n F D U k x = (stepN n D U k x : Int) := by unfold step; rw [h]; simp

set_option maxHeartbeats 2000000 in
theorem spec_StepRange (A : Option Addr) (n c : Nat) (F D U : Nat → Nat) (a : Int) (x : Nat) (w : World) (h : Rs w A n c F D U) :
    Calls Try.prog 27 #[.slice A n c, .int .i64 a, .float .f32 x] w fun e w' => e = .returned (.int .i64 (step n F D U a x)) ∧ Below w.heap.size w w' := by
  have hn : n ≤ 9223372036854775807 := Nat.le_trans h.1 h.2.1
  cases hg : goodB n F D U with
  | false =>
    have HR : Hid (step n F D U a x = -1) := step_bad x (by unfold okAt; rw [hg]; rfl)
    go_enter Try.func27, Try.ntmps27
    go_wp2_with fail
    refine (spec_ok A n c F D U _ h).mono ?_
    rintro e w1 ⟨rfl, b1⟩
    rw [hg]
    go_wp2_with fail
    go_ret
    exact ⟨by (rw [HR.out] <;> rfl), b1⟩
  | true =>
  have e1 : RowKit.wrap64 ((n : Int) - 1) = (n : Int) - 1 := by unfold RowKit.wrap64; omega
  cases hi : inB n a with
  | false =>
    have HR : Hid (step n F D U a x = -1) := step_bad x (by unfold okAt; rw [hg, hi]; rfl)
    go_enter Try.func27, Try.ntmps27
    go_wp2_with fail
    refine (spec_ok A n c F D U _ h).mono ?_
    rintro e w1 ⟨rfl, b1⟩
    rw [hg]
    go_wp2_with fail
    refine (inR.l01In_any _ _ _ _).mono ?_
    rintro e w2 ⟨rfl, rfl⟩
    rw [show decide (0 ≤ a ∧ a ≤ (n : Int) - 1) = false from hi]
    go_wp2_with fail
    go_ret
    exact ⟨by (rw [HR.out] <;> rfl), b1⟩
  | true =>
    have hi' := hi
    obtain ⟨k, rfl, hk⟩ := inB_true hi'
    clear hi'
    have HS : Hid (step n F D U k x = (stepN n D U k x : Int)) := step_ok x (by unfold okAt; rw [hg, hi]; rfl)
    obtain ⟨b, off, rfl, hlt, hcells⟩ := h.2.2 (by omega)
    obtain ⟨⟨_, s1, s2⟩, _⟩ := hcells k hk
    clear hcells
    go_enter Try.func27, Try.ntmps27
    go_wp2_with fail
    refine (spec_ok _ n c F D U _ h).mono ?_
    rintro e w1 ⟨rfl, b1⟩
    rw [hg]
    go_wp2_with fail
    refine (inR.l01In_any _ _ _ _).mono ?_
    rintro e w2 ⟨rfl, rfl⟩
    rw [show decide (0 ≤ (k : Int) ∧ (k : Int) ≤ (n : Int) - 1) = true from hi]
    have t1 := (b1.cell (p := ⟨b, off + k * 3 + 1, none⟩) hlt).trans s1
    have t2 := (b1.cell (p := ⟨b, off + k * 3 + 2, none⟩) hlt).trans s2
    have B1 := Lib.hid b1
    clear s1 s2 b1 h hlt e1 hi hg
    go_wp2_with fail
    have i1 : IntKind.i64.wrap ((k : Int) + 1) = (k : Int) + 1 := IntWalk.i64_in _ (by omega)
    have i2 : (0 : Int) ≤ (k : Int) + 1 := by omega
    have i3 : ((k : Int) + 1).toNat = k + 1 := by omega
    by_cases hk1 : k + 1 < n
    · have g1 : decide ((k : Int) + 1 < (n : Int)) = true := by simp; omega
      cases hu : gtB (amt x) (U k) with
      | true =>
        have HR : Hid (stepN n D U k x = k + 1) := by show _ = _; unfold stepN; rw [if_pos ⟨hk1, hu⟩]
        unfold gtB at hu
        go_quiet ((go_at_call 51; refine qs (l02Amount x _)))
        go_wp2_with fail
        go_ret
        exact ⟨by (rw [HS.out, HR.out] <;> go_num), below_dn B1.out _⟩
      | false =>
        have hno : ¬ (k + 1 < n ∧ gtB (amt x) (U k) = true) := by rw [hu]; simp
        unfold gtB at hu
        go_quiet ((go_at_call 51; refine qs (l02Amount x _)))
        go_wp2_with fail
        have tq : (w1.drewN nq).cell? ⟨b, off + k * 3 + 1, none⟩ = some (.float .f32 (D k)) := t1
        have BQ : Hid (Below w.heap.size w (w1.drewN nq)) := below_dn B1.out nq
        clear t1 t2 B1
        generalize w1.drewN nq = wq at *
        by_cases hk0 : 0 < k
        · have g2 : decide ((k : Int) > 0) = true := by simp; omega
          cases hd : ltB (amt x) (D k) with
          | true =>
            have HR : Hid (stepN n D U k x = k - 1) := by show _ = _; unfold stepN; rw [if_neg hno, if_pos ⟨hk0, hd⟩]
            unfold ltB at hd
            clear hno
            go_quiet ((go_at_call 51; refine qs (l02Amount x _)))
            go_wp2_with fail
            go_ret
            exact ⟨by (rw [HS.out, HR.out] <;> go_num), below_dn BQ.out _⟩
          | false =>
            have HR : Hid (stepN n D U k x = k) := by show _ = _; unfold stepN; rw [if_neg hno, if_neg (by rw [hd]; simp)]
            unfold ltB at hd
            clear hno
            go_quiet ((go_at_call 51; refine qs (l02Amount x _)))
            go_wp2_with fail
            go_ret
            exact ⟨by (rw [HS.out, HR.out] <;> rfl), below_dn BQ.out _⟩
        · have g2 : decide ((k : Int) > 0) = false := by simp; omega
          have HR : Hid (stepN n D U k x = k) := by show _ = _; unfold stepN; rw [if_neg hno, if_neg (fun h => hk0 h.1)]
          clear hno
          go_quiet ((go_at_call 51; refine qs (l02Amount x _)))
          go_wp2_with fail
          go_ret
          exact ⟨by (rw [HS.out, HR.out] <;> rfl), below_dn BQ.out _⟩
    · have g1 : decide ((k : Int) + 1 < (n : Int)) = false := by simp; omega
      have hno : ¬ (k + 1 < n ∧ gtB (amt x) (U k) = true) := fun h => hk1 h.1
      go_quiet ((go_at_call 51; refine qs (l02Amount x _)))
      go_wp2_with fail
      have tq : (w1.drewN nq).cell? ⟨b, off + k * 3 + 1, none⟩ = some (.float .f32 (D k)) := t1
      have BQ : Hid (Below w.heap.size w (w1.drewN nq)) := below_dn B1.out nq
      clear t1 t2 B1
      generalize w1.drewN nq = wq at *
      by_cases hk0 : 0 < k
      · have g2 : decide ((k : Int) > 0) = true := by simp; omega
        cases hd : ltB (amt x) (D k) with
        | true =>
          have HR : Hid (stepN n D U k x = k - 1) := by show _ = _; unfold stepN; rw [if_neg hno, if_pos ⟨hk0, hd⟩]
          unfold ltB at hd
          clear hno
          go_quiet ((go_at_call 51; refine qs (l02Amount x _)))
          go_wp2_with fail
          go_ret
          exact ⟨by (rw [HS.out, HR.out] <;> go_num), below_dn BQ.out _⟩
        | false =>
          have HR : Hid (stepN n D U k x = k) := by show _ = _; unfold stepN; rw [if_neg hno, if_neg (by rw [hd]; simp)]
          unfold ltB at hd
          clear hno
          go_quiet ((go_at_call 51; refine qs (l02Amount x _)))
          go_wp2_with fail
          go_ret
          exact ⟨by (rw [HS.out, HR.out] <;> rfl), below_dn BQ.out _⟩
      · have g2 : decide ((k : Int) > 0) = false := by simp; omega
        have HR : Hid (stepN n D U k x = k) := by show _ = _; unfold stepN; rw [if_neg hno, if_neg (fun h => hk0 h.1)]
        clear hno
        go_quiet ((go_at_call 51; refine qs (l02Amount x _)))
        go_wp2_with fail
        go_ret
        exact ⟨by (rw [HS.out, HR.out] <;> rfl), below_dn BQ.out _⟩

set_option maxHeartbeats 2000000 in
theorem impl_StepRange (A : Option Addr) (n c : Nat) (F D U : Nat → Nat) (a : Int) (x : Nat) (w : World) (h : Rs w A n c F D U) :
    Calls Try.prog 28 #[.slice A n c, .int .i64 a, .float .f32 x] w fun e w' => e = .returned (.int .i64 (step n F D U a x)) ∧ Below w.heap.size w w' := by
  have hn : n ≤ 9223372036854775807 := Nat.le_trans h.1 h.2.1
  cases hg : okAt n F D U a with
  | false =>
    have HR : Hid (step n F D U a x = -1) := step_bad x hg
    go_enter Try.func28, Try.ntmps28
    go_wp2_with fail
    refine (rangeOk_of A n c F D U a _ h hg).mono ?_
    rintro e w1 ⟨rfl, b1⟩
    go_wp2_with fail
    go_ret
    exact ⟨by (rw [HR.out] <;> rfl), b1⟩
  | true =>
    have hg' := hg
    unfold okAt at hg'
    obtain ⟨k, rfl, hk⟩ := inB_true (Bool.and_eq_true_iff.1 hg').2
    clear hg'
    have HS : Hid (step n F D U k x = (stepN n D U k x : Int)) := step_ok x hg
    obtain ⟨b, off, rfl, hlt, hcells⟩ := h.2.2 (by omega)
    obtain ⟨⟨_, s1, s2⟩, _⟩ := hcells k hk
    clear hcells
    go_enter Try.func28, Try.ntmps28
    go_wp2_with fail
    refine (rangeOk_of _ n c F D U k _ h hg).mono ?_
    rintro e w1 ⟨rfl, b1⟩
    have t1 := (b1.cell (p := ⟨b, off + k * 3 + 1, none⟩) hlt).trans s1
    have t2 := (b1.cell (p := ⟨b, off + k * 3 + 2, none⟩) hlt).trans s2
    have B1 := Lib.hid b1
    clear s1 s2 b1 h hlt hg
    go_wp2_with fail
    have i1 : IntKind.i64.wrap ((k : Int) + 1) = (k : Int) + 1 := IntWalk.i64_in _ (by omega)
    have i2 : (0 : Int) ≤ (k : Int) + 1 := by omega
    have i3 : ((k : Int) + 1).toNat = k + 1 := by omega
    by_cases hk1 : k + 1 < n
    · have g1 : decide ((k : Int) + 1 < (n : Int)) = true := by simp; omega
      cases hu : gtB (amt x) (U k) with
      | true =>
        have HR : Hid (stepN n D U k x = k + 1) := by show _ = _; unfold stepN; rw [if_pos ⟨hk1, hu⟩]
        unfold gtB at hu
        go_quiet ((go_at_call 52; refine qs (amount x _)))
        go_wp2_with fail
        go_ret
        exact ⟨by (rw [HS.out, HR.out] <;> go_num), below_dn B1.out _⟩
      | false =>
        have hno : ¬ (k + 1 < n ∧ gtB (amt x) (U k) = true) := by rw [hu]; simp
        unfold gtB at hu
        go_quiet ((go_at_call 52; refine qs (amount x _)))
        go_wp2_with fail
        have tq : (w1.drewN nq).cell? ⟨b, off + k * 3 + 1, none⟩ = some (.float .f32 (D k)) := t1
        have BQ : Hid (Below w.heap.size w (w1.drewN nq)) := below_dn B1.out nq
        clear t1 t2 B1
        generalize w1.drewN nq = wq at *
        by_cases hk0 : 0 < k
        · have g2 : decide ((k : Int) > 0) = true := by simp; omega
          cases hd : ltB (amt x) (D k) with
          | true =>
            have HR : Hid (stepN n D U k x = k - 1) := by show _ = _; unfold stepN; rw [if_neg hno, if_pos ⟨hk0, hd⟩]
            unfold ltB at hd
            clear hno
            go_quiet ((go_at_call 52; refine qs (amount x _)))
            go_wp2_with fail
            go_ret
            exact ⟨by (rw [HS.out, HR.out] <;> go_num), below_dn BQ.out _⟩
          | false =>
            have HR : Hid (stepN n D U k x = k) := by show _ = _; unfold stepN; rw [if_neg hno, if_neg (by rw [hd]; simp)]
            unfold ltB at hd
            clear hno
            go_quiet ((go_at_call 52; refine qs (amount x _)))
            go_wp2_with fail
            go_ret
            exact ⟨by (rw [HS.out, HR.out] <;> rfl), below_dn BQ.out _⟩
        · have g2 : decide ((k : Int) > 0) = false := by simp; omega
          have HR : Hid (stepN n D U k x = k) := by show _ = _; unfold stepN; rw [if_neg hno, if_neg (fun h => hk0 h.1)]
          clear hno
          go_quiet ((go_at_call 52; refine qs (amount x _)))
          go_wp2_with fail
          go_ret
          exact ⟨by (rw [HS.out, HR.out] <;> rfl), below_dn BQ.out _⟩
    · have g1 : decide ((k : Int) + 1 < (n : Int)) = false := by simp; omega
      have hno : ¬ (k + 1 < n ∧ gtB (amt x) (U k) = true) := fun h => hk1 h.1
      go_quiet ((go_at_call 52; refine qs (amount x _)))
      go_wp2_with fail
      have tq : (w1.drewN nq).cell? ⟨b, off + k * 3 + 1, none⟩ = some (.float .f32 (D k)) := t1
      have BQ : Hid (Below w.heap.size w (w1.drewN nq)) := below_dn B1.out nq
      clear t1 t2 B1
      generalize w1.drewN nq = wq at *
      by_cases hk0 : 0 < k
      · have g2 : decide ((k : Int) > 0) = true := by simp; omega
        cases hd : ltB (amt x) (D k) with
        | true =>
          have HR : Hid (stepN n D U k x = k - 1) := by show _ = _; unfold stepN; rw [if_neg hno, if_pos ⟨hk0, hd⟩]
          unfold ltB at hd
          clear hno
          go_quiet ((go_at_call 52; refine qs (amount x _)))
          go_wp2_with fail
          go_ret
          exact ⟨by (rw [HS.out, HR.out] <;> go_num), below_dn BQ.out _⟩
        | false =>
          have HR : Hid (stepN n D U k x = k) := by show _ = _; unfold stepN; rw [if_neg hno, if_neg (by rw [hd]; simp)]
          unfold ltB at hd
          clear hno
          go_quiet ((go_at_call 52; refine qs (amount x _)))
          go_wp2_with fail
          go_ret
          exact ⟨by (rw [HS.out, HR.out] <;> rfl), below_dn BQ.out _⟩
      · have g2 : decide ((k : Int) > 0) = false := by simp; omega
        have HR : Hid (stepN n D U k x = k) := by show _ = _; unfold stepN; rw [if_neg hno, if_neg (fun h => hk0 h.1)]
        clear hno
        go_quiet ((go_at_call 52; refine qs (amount x _)))
        go_wp2_with fail
        go_ret
        exact ⟨by (rw [HS.out, HR.out] <;> rfl), below_dn BQ.out _⟩
end Go.Proofs.Ytjclldiaddoobaa.rng
