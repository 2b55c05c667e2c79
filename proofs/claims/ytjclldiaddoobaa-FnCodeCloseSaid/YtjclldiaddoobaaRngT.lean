/- Contracts of Settle in both packages. -/
import Derived.Test.YtjclldiaddoobaaRngS
import Derived.Test.YtjclldiaddoobaaRngC
namespace Go.Proofs.Ytjclldiaddoobaa.rng
open Go.RowKit base Fl same
set_option linter.unusedVariables false

/-- m steps on from range k -/
def steps (n : Nat) (D U : Nat → Nat) (x : Nat) : Nat → Nat → Nat
  | 0, k => k
  | m + 1, k => stepN n D U (steps n D U x m k) x
/-- where a reading that began at k comes to rest -/
def Rest (n : Nat) (D U : Nat → Nat) (x k r : Nat) : Prop := (∃ m, steps n D U x m k = r) ∧ stepN n D U r x = r

theorem steps_add (n : Nat) (D U : Nat → Nat) (x k : Nat) (m : Nat) : ∀ j, steps n D U x (m + j) k = steps n D U x j (steps n D U x m k)
  | 0 => rfl
  | j + 1 => by show stepN n D U (steps n D U x (m + j) k) x = stepN n D U (steps n D U x j (steps n D U x m k)) x; rw [steps_add n D U x k m j]
theorem steps_rest {n : Nat} {D U : Nat → Nat} {x r : Nat} (h : stepN n D U r x = r) : ∀ j, steps n D U x j r = r
  | 0 => rfl
  | j + 1 => by show stepN n D U (steps n D U x j r) x = r; rw [steps_rest h j, h]
theorem Rest.unique {n : Nat} {D U : Nat → Nat} {x k r s : Nat} (h : Rest n D U x k r) (h' : Rest n D U x k s) : r = s := by
  obtain ⟨⟨m, hm⟩, hr⟩ := h
  obtain ⟨⟨j, hj⟩, hs⟩ := h'
  have e1 := steps_add n D U x k m j
  have e2 := steps_add n D U x k j m
  rw [hm, steps_rest hr] at e1
  rw [hj, steps_rest hs, Nat.add_comm] at e2
  exact e1.symm.trans e2

theorem ltB_iff {x y : Nat} : ltB x y = true ↔ num S x = true ∧ num S y = true ∧ key S x < key S y := by
  unfold ltB
  constructor
  · intro h
    cases ho : S.order x y with
    | none => rw [ho] at h; cases h
    | some o =>
      obtain ⟨h1, h2⟩ := num_of_order ho
      refine ⟨h1, h2, ?_⟩
      rcases Int.lt_trichotomy (key S x) (key S y) with hk | hk | hk
      · omega
      · rw [show S.order x y = some .eq from ordEq (k := .f32) h1 h2 hk] at h; cases h
      · rw [show S.order x y = some .gt from ordGt (k := .f32) h1 h2 hk] at h; cases h
  · rintro ⟨h1, h2, h3⟩
    rw [show S.order x y = some .lt from ordLt (k := .f32) h1 h2 h3]; rfl

/-- the reading is above range k, or below it -/
def isUp (n : Nat) (U : Nat → Nat) (x k : Nat) : Prop := k + 1 < n ∧ gtB (amt x) (U k) = true
def isDn (D : Nat → Nat) (x k : Nat) : Prop := 0 < k ∧ ltB (amt x) (D k) = true
instance (n : Nat) (U : Nat → Nat) (x k : Nat) : Decidable (isUp n U x k) := by unfold isUp; infer_instance
instance (D : Nat → Nat) (x k : Nat) : Decidable (isDn D x k) := by unfold isDn; infer_instance
theorem stepN_eq (n : Nat) (D U : Nat → Nat) (k x : Nat) : stepN n D U k x = if isUp n U x k then k + 1 else if isDn D x k then k - 1 else k := rfl
def mu (n : Nat) (D U : Nat → Nat) (x k : Nat) : Nat := if isUp n U x k then n - k else if isDn D x k then k + 1 else 0

theorem good_link {n : Nat} {F D U : Nat → Nat} (h : goodB n F D U = true) {k : Nat} (hk : k + 1 < n) : num S (U k) = true ∧ num S (D (k + 1)) = true ∧ key S (D (k + 1)) ≤ key S (U k) := by
  have h1 := ((of_decide_eq_true h).2 (k + 1) hk).2 (by omega)
  unfold okP at h1
  obtain ⟨_, h2⟩ := Bool.and_eq_true_iff.1 h1
  obtain ⟨a, b, c⟩ := leB_iff.1 h2
  exact ⟨b, a, c⟩
theorem no_turn {n : Nat} {F D U : Nat → Nat} {x : Nat} (h : goodB n F D U = true) {k : Nat} (hk : k + 1 < n) (hu : gtB (amt x) (U k) = true) (hd : ltB (amt x) (D (k + 1)) = true) : False := by
  obtain ⟨_, _, h3⟩ := good_link h hk
  obtain ⟨_, _, h4⟩ := gtB_iff.1 hu
  obtain ⟨_, _, h5⟩ := ltB_iff.1 hd
  omega
theorem mu_lt {n : Nat} {F D U : Nat → Nat} {x : Nat} (h : goodB n F D U = true) {k : Nat} (hk : k < n) (hs : stepN n D U k x ≠ k) : mu n D U x (stepN n D U k x) < mu n D U x k ∧ stepN n D U k x < n := by
  rw [stepN_eq] at hs ⊢
  by_cases hu : isUp n U x k
  · rw [if_pos hu]
    have h1 : mu n D U x k = n - k := by unfold mu; rw [if_pos hu]
    refine ⟨?_, hu.1⟩
    rw [h1]
    unfold mu
    by_cases h2 : isUp n U x (k + 1)
    · rw [if_pos h2]; have := hu.1; omega
    · rw [if_neg h2]
      by_cases h3 : isDn D x (k + 1)
      · exact (no_turn h hu.1 hu.2 h3.2).elim
      · rw [if_neg h3]; have := hu.1; omega
  · rw [if_neg hu] at hs ⊢
    by_cases hd : isDn D x k
    · rw [if_pos hd]
      have h0 := hd.1
      have h1 : mu n D U x k = k + 1 := by unfold mu; rw [if_neg hu, if_pos hd]
      refine ⟨?_, by omega⟩
      rw [h1]
      unfold mu
      by_cases h2 : isUp n U x (k - 1)
      · exfalso
        refine no_turn h h2.1 h2.2 ?_
        rw [show k - 1 + 1 = k by omega]; exact hd.2
      · rw [if_neg h2]
        split <;> omega
    · rw [if_neg hd] at hs; exact absurd rfl hs

/-- what Settle tells -/
def Settled (n : Nat) (F D U : Nat → Nat) (a : Int) (x : Nat) (r : Int) : Prop :=
  (okAt n F D U a = false ∧ r = -1) ∨ (okAt n F D U a = true ∧ ∃ s : Nat, r = s ∧ s < n ∧ Rest n D U x a.toNat s)
theorem Settled.unique {n : Nat} {F D U : Nat → Nat} {a : Int} {x : Nat} {r s : Int} (h : Settled n F D U a x r) (h' : Settled n F D U a x s) : r = s := by
  rcases h with ⟨h1, h2⟩ | ⟨h1, t, rfl, _, h3⟩
  · rcases h' with ⟨_, h4⟩ | ⟨h4, _⟩
    · rw [h2, h4]
    · rw [h1] at h4; cases h4
  · rcases h' with ⟨h4, _⟩ | ⟨_, t', rfl, _, h5⟩
    · rw [h1] at h4; cases h4
    · rw [h3.unique h5]
def SettleE (n : Nat) (F D U : Nat → Nat) (a : Int) (x : Nat) (w : World) (e : Ending) (w' : World) : Prop := ∃ r : Int, e = .returned (.int .i64 r) ∧ Settled n F D U a x r ∧ Below w.heap.size w w'

theorem okAt_k {n : Nat} {F D U : Nat → Nat} {a : Int} (h : okAt n F D U a = true) : goodB n F D U = true ∧ ∃ k : Nat, a = k ∧ k < n := by
  unfold okAt at h
  obtain ⟨h1, h2⟩ := Bool.and_eq_true_iff.1 h
  exact ⟨h1, inB_true h2⟩
theorem okAt_of {n : Nat} {F D U : Nat → Nat} {k : Nat} (h : goodB n F D U = true) (hk : k < n) : okAt n F D U k = true := by
  unfold okAt inB; rw [h]; simp; omega

set_option maxHeartbeats 2000000 in
theorem impl_Settle (A : Option Addr) (n c : Nat) (F D U : Nat → Nat) (a : Int) (x : Nat) (w : World) (h : Rs w A n c F D U) :
    Calls Try.prog 32 #[.slice A n c, .int .i64 a, .float .f32 x] w (SettleE n F D U a x w) := by
  cases hok : okAt n F D U a with
  | false =>
    go_enter Try.func32, Try.ntmps32
    go_wp2_with fail
    go_loopw [1] (fun i wr => i = .int .i64 a ∧ wr = w) (fun _ _ => 0)
    case atStart => exact ⟨rfl, rfl⟩
    case round =>
      obtain ⟨rfl, rfl⟩ := hrel
      go_wp2_with fail
      refine (impl_StepRange A n c F D U a x _ h).mono ?_
      rintro e w1 ⟨rfl, b1⟩
      rw [step_bad x hok]
      go_wp2_with fail
      go_ret
      exact ⟨-1, rfl, Or.inl ⟨hok, rfl⟩, b1⟩
  | true =>
    obtain ⟨hg, k, rfl, hk⟩ := okAt_k hok
    go_enter Try.func32, Try.ntmps32
    go_wp2_with fail
    go_loopw [1] (fun i wr => ∃ j m : Nat, i = .int .i64 j ∧ j < n ∧ steps n D U x m k = j ∧ Below w.heap.size w wr) (fun i _ => mu n D U x (intOf i).toNat)
    case atStart => exact ⟨k, 0, rfl, hk, rfl, Below.refl _ _⟩
    case round =>
      obtain ⟨j, m, rfl, hj, hm, hb⟩ := hrel
      have HM := Lib.hid hm
      have HB := Lib.hid hb
      have hjok := okAt_of hg hj
      clear hm
      go_wp2_with fail
      refine (impl_StepRange A n c F D U j x _ (h.below hb)).mono ?_
      rintro e w1 ⟨rfl, b1⟩
      rw [step_ok x hjok]
      have B1 := Lib.hid (HB.out.trans (b1.mono HB.out.size))
      clear b1 hb
      by_cases hs : stepN n D U j x = j
      · rw [hs]
        go_wp2_with fail
        go_ret
        exact ⟨j, rfl, Or.inr ⟨hok, j, rfl, hj, ⟨m, HM.out⟩, hs⟩, B1.out⟩
      · obtain ⟨hmu, hlt⟩ := mu_lt hg hj hs
        have HMU := Lib.hid hmu
        have HE : Hid (steps n D U x (m + 1) k = stepN n D U j x) := by show stepN n D U (steps n D U x m k) x = _; rw [HM.out]
        have hne : ¬ ((stepN n D U j x : Nat) : Int) = (j : Int) := fun h => hs (by omega)
        clear hmu
        generalize stepN n D U j x = s at *
        have g1 : decide ((s : Int) < 0) = false := by simp
        have g2 : ((s : Int) == (j : Int)) = false := by simpa using hne
        go_wp2_with fail
        go_roundw
        case rel => exact ⟨s, m + 1, rfl, hlt, HE.out, B1.out⟩
        case measure => simpa [intOf] using HMU.out

set_option maxHeartbeats 2000000 in
theorem spec_Settle (A : Option Addr) (n c : Nat) (F D U : Nat → Nat) (a : Int) (x : Nat) (w : World) (h : Rs w A n c F D U) :
    Calls Try.prog 31 #[.slice A n c, .int .i64 a, .float .f32 x] w (SettleE n F D U a x w) := by
  cases hok : okAt n F D U a with
  | false =>
    go_enter Try.func31, Try.ntmps31
    go_wp2_with fail
    refine (spec_StepRange A n c F D U a x _ h).mono ?_
    rintro e w1 ⟨rfl, b1⟩
    rw [step_bad x hok]
    go_wp2_with fail
    go_loopw [1, 7] (fun i s wr => i = .int .i64 a ∧ s = .int .i64 (-1) ∧ wr = w1) (fun _ _ _ => 0)
    case atStart => exact ⟨rfl, rfl, rfl⟩
    case round =>
      obtain ⟨rfl, rfl, rfl⟩ := hrel
      by_cases ha : (-1 : Int) = a
      · go_wp2_with fail
        go_ret
        exact ⟨-1, rfl, Or.inl ⟨hok, rfl⟩, b1⟩
      · go_wp2_with fail
        go_ret
        exact ⟨-1, rfl, Or.inl ⟨hok, rfl⟩, b1⟩
  | true =>
    obtain ⟨hg, k, rfl, hk⟩ := okAt_k hok
    go_enter Try.func31, Try.ntmps31
    go_wp2_with fail
    refine (spec_StepRange A n c F D U k x _ h).mono ?_
    rintro e w1 ⟨rfl, b1⟩
    rw [step_ok x hok]
    go_wp2_with fail
    go_loopw [1, 7] (fun i s wr => ∃ j m : Nat, i = .int .i64 j ∧ s = .int .i64 (stepN n D U j x : Nat) ∧ j < n ∧ steps n D U x m k = j ∧ Below w.heap.size w wr) (fun i _ _ => mu n D U x (intOf i).toNat)
    case atStart => exact ⟨k, 0, rfl, rfl, hk, rfl, b1⟩
    case round =>
      obtain ⟨j, m, rfl, rfl, hj, hm, hb⟩ := hrel
      have HM := Lib.hid hm
      have HB := Lib.hid hb
      clear hm
      by_cases hs : stepN n D U j x = j
      · rw [hs]
        go_wp2_with fail
        go_ret
        exact ⟨j, rfl, Or.inr ⟨hok, j, rfl, hj, ⟨m, HM.out⟩, hs⟩, HB.out⟩
      · obtain ⟨hmu, hlt⟩ := mu_lt hg hj hs
        have HMU := Lib.hid hmu
        have HE : Hid (steps n D U x (m + 1) k = stepN n D U j x) := by show stepN n D U (steps n D U x m k) x = _; rw [HM.out]
        have hne : ¬ ((stepN n D U j x : Nat) : Int) = (j : Int) := fun h => hs (by omega)
        clear hmu
        have hsok := okAt_of hg hlt
        generalize stepN n D U j x = s at *
        go_wp2_with fail
        refine (spec_StepRange A n c F D U s x _ (h.below hb)).mono ?_
        rintro e w2 ⟨rfl, b2⟩
        rw [step_ok x hsok]
        have B2 := Lib.hid (HB.out.trans (b2.mono HB.out.size))
        clear b2 hb
        go_wp2_with fail
        go_roundw
        case rel => exact ⟨s, m + 1, rfl, rfl, hlt, HE.out, B2.out⟩
        case measure => simpa [intOf] using HMU.out
end Go.Proofs.Ytjclldiaddoobaa.rng
