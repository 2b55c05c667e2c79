/- The contract of RangesOk in package impl. -/
import Derived.Test.YtjclldiaddoobaaRngOk
namespace Go.Proofs.Ytjclldiaddoobaa.rng
open Go.RowKit base Fl same
set_option linter.unusedVariables false
attribute [local go_sem] store_f

theorem finiteSingle (x : Nat) (hx : x < 2 ^ 32) (h : num S x = true) (w : World) : Calls Try.prog 48 #[.float .f32 x] w fun e w' => e = .returned (.bool (fin S x)) ∧ w = w' := by
  obtain ⟨h1, h2, h3, h4⟩ := up_num h
  have hcv : ∀ W : World, (convert 29 33 (.float .f32 x)).run Try.prog W = .ok (.float .f64 (up x)) W := fun W =>
    run_convert_float_float W 29 33 .f32 .f64 x _ (by rw [Try.underlying29]; rfl) Try.underlying33 h1
  have HH := Lib.hid (up_fin_eq h)
  have H4 := Lib.hid h4
  clear h1 h2 h3 h4
  go_enter Try.func48, Try.ntmps48
  go_wp2_with fail
  refine (finite _ H4.out _).mono ?_
  rintro e w1 ⟨rfl, rfl⟩
  go_wp2_with fail
  go_ret
  exact ⟨by (rw [HH.out]; rfl), rfl⟩

set_option maxHeartbeats 1000000 in
theorem impl_ok (A : Option Addr) (n c : Nat) (F D U : Nat → Nat) (w : World) (h : Rs w A n c F D U) :
    Calls Try.prog 18 #[.slice A n c] w fun e w' => e = .returned (.bool (goodB n F D U)) ∧ Below w.heap.size w w' := by
  have hn := h.1
  have hc := h.2.1
  by_cases h0 : 1 ≤ n ∧ n ≤ 12
  · obtain ⟨b, off, rfl, hlt, hcells⟩ := h.2.2 h0.1
    clear h
    go_enter Try.func18, Try.ntmps18
    go_wp2_with fail
    refine (inR.within_any _ _ _ _).mono ?_
    rintro e w1 ⟨rfl, rfl⟩
    rw [show (decide ((1 : Int) ≤ (n : Int) ∧ (n : Int) ≤ 12)) = true from decide_eq_true ⟨by omega, by omega⟩]
    go_wp2_with fail
    go_loopw [11] (fun i wr => ∃ k : Nat, k ≤ n ∧ i = .int .i64 k ∧ (∀ j, j < k → okA (F j) (D j) (U j) = true ∧ (0 < j → okP (F j) (D j) (F (j - 1)) (U (j - 1)) = true)) ∧ Below w.heap.size w wr) (fun i _ => n - (intOf i).toNat)
    case atStart => exact ⟨0, Nat.zero_le _, rfl, fun j hj => absurd hj (by omega), Below.refl _ _⟩
    case round =>
      obtain ⟨k, hk, rfl, hgood, hbel⟩ := hrel
      by_cases hkn : k < n
      · obtain ⟨⟨s1, s2, s3⟩, l1, l2, l3⟩ := hcells k hkn
        have t1 := (hbel.cell (p := ⟨b, off + k * 3, none⟩) hlt).trans s1
        have t2 := (hbel.cell (p := ⟨b, off + k * 3 + 1, none⟩) hlt).trans s2
        have t3 := (hbel.cell (p := ⟨b, off + k * 3 + 2, none⟩) hlt).trans s3
        clear s1 s2 s3
        have HB := Lib.hid hbel
        have HG := Lib.hid hgood
        have HL := Lib.hid hlt
        have L1 := Lib.hid l1
        clear hgood l1 l2 l3
        have bad : okA (F k) (D k) (U k) = false → goodB n F D U = false := fun e => decide_eq_false fun h => by have := (h.2 k hkn).1; rw [e] at this; cases this
        have badP : 0 < k → okP (F k) (D k) (F (k - 1)) (U (k - 1)) = false → goodB n F D U = false := fun h0 e => decide_eq_false fun h => by have := (h.2 k hkn).2 h0; rw [e] at this; cases this
        have BAD := Lib.hid bad
        have BADP := Lib.hid badP
        clear bad badP
        cases c1 : geB (D k) 0 with
        | false =>
          have HR := Lib.hid (BAD.out (by unfold okA; simp [*]))
          have d1 := c1
          unfold geB at d1
          clear hbel c1
          go_wp2_with fail
          go_ret
          exact ⟨by (rw [HR.out] <;> rfl), below_step3 HB.out⟩
        | true =>
        cases c2 : gtB (U k) (D k) with
        | false =>
          have HR := Lib.hid (BAD.out (by unfold okA; simp [*]))
          have d1 := c1; have d2 := c2
          unfold geB at d1
          unfold gtB at d2
          clear hbel c1 c2
          go_wp2_with fail
          go_ret
          exact ⟨by (rw [HR.out] <;> rfl), below_step3 HB.out⟩
        | true =>
        cases c3 : geB (F k) (U k) with
        | false =>
          have HR := Lib.hid (BAD.out (by unfold okA; simp [*]))
          have d1 := c1; have d2 := c2; have d3 := c3
          unfold geB at d1 d3
          unfold gtB at d2
          clear hbel c1 c2 c3
          go_wp2_with fail
          go_ret
          exact ⟨by (rw [HR.out] <;> rfl), below_step3 HB.out⟩
        | true =>
        cases c4 : geB (F k) 228737632 with
        | false =>
          have HR := Lib.hid (BAD.out (by unfold okA; simp [*]))
          have d1 := c1; have d2 := c2; have d3 := c3; have d4 := c4
          unfold geB at d1 d3 d4
          unfold gtB at d2
          clear hbel c1 c2 c3 c4
          go_wp2_with fail
          go_ret
          exact ⟨by (rw [HR.out] <;> rfl), below_step3 HB.out⟩
        | true =>
        have HF4 := Lib.hid (And.intro (ge_num c4) L1.out)
        cases c5 : fin S (F k) with
        | false =>
          have HR := Lib.hid (BAD.out (by unfold okA; simp [*]))
          have hff := c5
          have d1 := c1; have d2 := c2; have d3 := c3; have d4 := c4
          unfold geB at d1 d3 d4
          unfold gtB at d2
          clear hbel c1 c2 c3 c4 c5
          go_wp2_with fail
          refine (finiteSingle _ HF4.out.2 HF4.out.1 _).mono ?_
          rintro e w1 ⟨rfl, rfl⟩
          rw [hff]
          go_wp2_with fail
          go_ret
          exact ⟨by (rw [HR.out] <;> rfl), below_step3 HB.out⟩
        | true =>
        have HOK : Hid (okA (F k) (D k) (U k) = true) := by unfold okA; rw [c1, c2, c3, c4, c5]; rfl
        have hff := c5
        have d1 := c1; have d2 := c2; have d3 := c3; have d4 := c4
        unfold geB at d1 d3 d4
        unfold gtB at d2
        clear hbel c1 c2 c3 c4 c5
        go_wp2_with fail
        refine (finiteSingle _ HF4.out.2 HF4.out.1 _).mono ?_
        rintro e w1 ⟨rfl, rfl⟩
        rw [hff]
        clear d1 d2 d3 d4
        go_wp2_with fail
        have hlt' : b < wr.heap.size := Nat.lt_of_lt_of_le HL.out HB.out.size
        rcases Nat.eq_zero_or_pos k with hk0 | hk0
        · have hg : decide ((k : Int) > 0) = false := by simp; omega
          clear t1 t2 t3 hlt' hn hc
          go_quiet (fail)
          go_wp2_with fail
          go_roundw
          case rel =>
            refine ⟨k + 1, by omega, by go_num, ?_, below_dn (below_step3 HB.out) _⟩
            intro j hj
            by_cases hjk : j = k
            · subst hjk; exact ⟨HOK.out, fun h => absurd h (by omega)⟩
            · exact HG.out j (by omega)
          case measure => simp [intOf]; omega
        · have hg : decide ((k : Int) > 0) = true := by simp; omega
          have hpk := hcells (k - 1) (by omega)
          obtain ⟨⟨s1, s2, s3⟩, _⟩ := hpk
          have p1 := (HB.out.cell (p := ⟨b, off + (k - 1) * 3, none⟩) hlt).trans s1
          have p3 := (HB.out.cell (p := ⟨b, off + (k - 1) * 3 + 2, none⟩) hlt).trans s3
          clear s1 s2 s3 t1 t2 t3
          have i1 : IntKind.i64.wrap ((k : Int) - 1) = (k : Int) - 1 := IntWalk.i64_in _ (by omega)
          have i2 : (0 : Int) ≤ (k : Int) - 1 := by omega
          have i3 : ((k : Int) - 1).toNat = k - 1 := by omega
          have i4 : (k : Int) - 1 < (n : Int) := by omega
          cases e1 : gtB (F k) (F (k - 1)) with
          | false =>
            have HR := Lib.hid (BADP.out hk0 (by unfold okP; simp [*]))
            unfold gtB at e1
            go_quiet (fail)
            go_wp2_with fail
            go_ret
            exact ⟨by (rw [HR.out] <;> rfl), below_dn (below_step3 HB.out) _⟩
          | true =>
          cases e2 : leB (D k) (U (k - 1)) with
          | false =>
            have HR := Lib.hid (BADP.out hk0 (by unfold okP; simp [*]))
            unfold gtB at e1
            unfold leB at e2
            go_quiet (fail)
            go_wp2_with fail
            go_ret
            exact ⟨by (rw [HR.out] <;> rfl), below_dn (below_step3 HB.out) _⟩
          | true =>
            have HP : Hid (okP (F k) (D k) (F (k - 1)) (U (k - 1)) = true) := by unfold okP; rw [e1, e2]; rfl
            unfold gtB at e1
            unfold leB at e2
            go_quiet (fail)
            go_wp2_with fail
            go_roundw
            case rel =>
              refine ⟨k + 1, by omega, by go_num, ?_, below_dn (below_step3 HB.out) _⟩
              intro j hj
              by_cases hjk : j = k
              · subst hjk; exact ⟨HOK.out, fun _ => HP.out⟩
              · exact HG.out j (by omega)
            case measure => simp [intOf]; omega
      · have : k = n := by omega
        subst this
        have HB := Lib.hid hbel
        have HR : Hid (goodB k F D U = true) := decide_eq_true ⟨h0, hgood⟩
        clear hgood
        go_wp2_with fail
        go_ret
        exact ⟨by (rw [HR.out] <;> rfl), HB.out⟩
  · have HR : Hid (goodB n F D U = false) := decide_eq_false fun h => h0 h.1
    go_enter Try.func18, Try.ntmps18
    go_wp2_with fail
    refine (inR.within_any _ _ _ _).mono ?_
    rintro e w1 ⟨rfl, rfl⟩
    rw [show (decide ((1 : Int) ≤ (n : Int) ∧ (n : Int) ≤ 12)) = false from decide_eq_false (by omega)]
    go_wp2_with fail
    go_ret
    exact ⟨by (rw [HR.out] <;> rfl), Below.refl _ _⟩
end Go.Proofs.Ytjclldiaddoobaa.rng
