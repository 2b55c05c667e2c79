/- RangesOk in both packages: what it tells. -/
import Derived.Test.YtjclldiaddoobaaRng
import Derived.Test.YtjclldiaddoobaaRngEq
import Derived.Test.YtjclldiaddoobaaIn
import Derived.Test.YtjclldiaddoobaaWithin
import Derived.Test.YtjclldiaddoobaaFine
import Derived.Test.YtjclldiaddoobaaFinite
import Derived.Deep.QuietTactic
import Derived.BigQuiet
import Derived.IntWalk
namespace Go.Proofs.Ytjclldiaddoobaa.rng
open Go.RowKit base Fl same
set_option linter.unusedVariables false
attribute [local go_sem] store_f

def geB (x y : Nat) : Bool := S.order x y == some .gt || S.order x y == some .eq
def leB (x y : Nat) : Bool := S.order x y == some .lt || S.order x y == some .eq
def gtB (x y : Nat) : Bool := S.order x y == some .gt

/-- a range that is good by itself -/
def okA (f d u : Nat) : Bool := geB d 0 && gtB u d && geB f u && geB f 228737632 && fin S f
/-- a range that is good behind the one before it -/
def okP (f d f' u' : Nat) : Bool := gtB f f' && leB d u'
/-- what RangesOk tells -/
def Good (n : Nat) (F D U : Nat → Nat) : Prop := (1 ≤ n ∧ n ≤ 12) ∧ ∀ j, j < n → okA (F j) (D j) (U j) = true ∧ (0 < j → okP (F j) (D j) (F (j - 1)) (U (j - 1)) = true)
instance (n : Nat) (F D U : Nat → Nat) : Decidable (Good n F D U) := by unfold Good; infer_instance
def goodB (n : Nat) (F D U : Nat → Nat) : Bool := decide (Good n F D U)

theorem ge_num {x y : Nat} (h : geB x y = true) : num S x = true := by
  cases hx : num S x with
  | true => rfl
  | false =>
    have := ordNanL (k := .f32) hx y
    unfold geB at h
    rw [show S.order x y = none from this] at h
    cases h
theorem up_fin_eq {x : Nat} (h : num S x = true) : fin D (up x) = fin S x := by
  cases hf : fin S x with
  | true => exact (up_fin hf).2.1
  | false =>
    have hr : rg S x = S.infRung := by
      have := num_iff.1 h; have := mt fin_iff.2 (by rw [hf]; simp : ¬ fin S x = true); omega
    rw [(up_inf hr).2]
    cases hh : fin D (inf D (ng S x)) with
    | false => rfl
    | true =>
      have := fin_iff.1 hh
      rw [rg_inf] at this
      omega

theorem below_step3 {w wr : World} {o : Obj} (h : Below w.heap.size w wr) : Below w.heap.size w (wr.alloc o) := h.alloc h.size _
theorem below_dn {B : Nat} {w w' : World} (h : Below B w w') (n : Nat) : Below B w (w'.drewN n) := ⟨h.os, h.tape, h.output, h.size, h.block⟩

set_option maxHeartbeats 1000000 in
theorem spec_ok (A : Option Addr) (n c : Nat) (F D U : Nat → Nat) (w : World) (h : Rs w A n c F D U) :
    Calls Try.prog 16 #[.slice A n c] w fun e w' => e = .returned (.bool (goodB n F D U)) ∧ Below w.heap.size w w' := by
  have hn := h.1
  have hc := h.2.1
  by_cases h0 : 1 ≤ n ∧ n ≤ 12
  · obtain ⟨b, off, rfl, hlt, hcells⟩ := h.2.2 h0.1
    clear h
    go_enter Try.func16, Try.ntmps16
    go_wp2_with fail
    refine (inR.l01In_any _ _ _ _).mono ?_
    rintro e w1 ⟨rfl, rfl⟩
    rw [show (decide ((1 : Int) ≤ (n : Int) ∧ (n : Int) ≤ 12)) = true from decide_eq_true ⟨by omega, by omega⟩]
    go_wp2_with fail
    go_loopw [3] (fun i wr => ∃ k : Nat, k ≤ n ∧ i = .int .i64 k ∧ (∀ j, j < k → okA (F j) (D j) (U j) = true ∧ (0 < j → okP (F j) (D j) (F (j - 1)) (U (j - 1)) = true)) ∧ Below w.heap.size w wr) (fun i _ => n - (intOf i).toNat)
    case atStart => exact ⟨0, Nat.zero_le _, rfl, fun j hj => absurd hj (by omega), Below.refl _ _⟩
    case round =>
      obtain ⟨k, hk, rfl, hgood, hbel⟩ := hrel
      by_cases hkn : k < n
      · obtain ⟨⟨s1, s2, s3⟩, l1, l2, l3⟩ := hcells k hkn
        have t1 := (hbel.cell (p := ⟨b, off + k * 3, none⟩) hlt).trans s1
        have t2 := (hbel.cell (p := ⟨b, off + k * 3 + 1, none⟩) hlt).trans s2
        have t3 := (hbel.cell (p := ⟨b, off + k * 3 + 2, none⟩) hlt).trans s3
        clear s1 s2 s3
        have HB := Lib.hid hbel
        have HG := Lib.hid hgood
        have HL := Lib.hid hlt
        clear hgood l1 l2 l3
        have bad : okA (F k) (D k) (U k) = false → goodB n F D U = false := fun e => decide_eq_false fun h => by have := (h.2 k hkn).1; rw [e] at this; cases this
        have badP : 0 < k → okP (F k) (D k) (F (k - 1)) (U (k - 1)) = false → goodB n F D U = false := fun h0 e => decide_eq_false fun h => by have := (h.2 k hkn).2 h0; rw [e] at this; cases this
        have BAD := Lib.hid bad
        have BADP := Lib.hid badP
        clear bad badP
        have hcv : num S (F k) = true → ∀ W : World, (convert 29 33 (.float .f32 (F k))).run Try.prog W = .ok (.float .f64 (up (F k))) W := fun hx W =>
          run_convert_float_float W 29 33 .f32 .f64 (F k) _ (by rw [Try.underlying29]; rfl) Try.underlying33 (up_num hx).1
        cases c1 : geB (D k) 0 with
        | false =>
          have HR := Lib.hid (BAD.out (by unfold okA; simp [*]))
          have d1 := c1
          unfold geB at d1
          clear hbel hcv c1
          go_wp2_with fail
          go_ret
          exact ⟨by (rw [HR.out] <;> rfl), below_step3 HB.out⟩
        | true =>
        cases c2 : gtB (U k) (D k) with
        | false =>
          have HR := Lib.hid (BAD.out (by unfold okA; simp [*]))
          have d1 := c1; have d2 := c2
          unfold geB at d1
          unfold gtB at d2
          clear hbel hcv c1 c2
          go_wp2_with fail
          go_ret
          exact ⟨by (rw [HR.out] <;> rfl), below_step3 HB.out⟩
        | true =>
        cases c3 : geB (F k) (U k) with
        | false =>
          have HR := Lib.hid (BAD.out (by unfold okA; simp [*]))
          have d1 := c1; have d2 := c2; have d3 := c3
          unfold geB at d1 d3
          unfold gtB at d2
          clear hbel hcv c1 c2 c3
          go_wp2_with fail
          go_ret
          exact ⟨by (rw [HR.out] <;> rfl), below_step3 HB.out⟩
        | true =>
        cases c4 : geB (F k) 228737632 with
        | false =>
          have HR := Lib.hid (BAD.out (by unfold okA; simp [*]))
          have d1 := c1; have d2 := c2; have d3 := c3; have d4 := c4
          unfold geB at d1 d3 d4
          unfold gtB at d2
          clear hbel hcv c1 c2 c3 c4
          go_wp2_with fail
          go_ret
          exact ⟨by (rw [HR.out] <;> rfl), below_step3 HB.out⟩
        | true =>
        have hcv := hcv (ge_num c4)
        have hff := up_fin_eq (ge_num c4)
        cases c5 : fin S (F k) with
        | false =>
          have HR := Lib.hid (BAD.out (by unfold okA; simp [*]))
          rw [c5] at hff
          have d1 := c1; have d2 := c2; have d3 := c3; have d4 := c4
          unfold geB at d1 d3 d4
          unfold gtB at d2
          clear hbel c1 c2 c3 c4 c5
          go_wp2_with fail
          refine (l01Fine _ _).mono ?_
          rintro e w1 ⟨rfl, m, rfl⟩
          rw [hff]
          go_wp2_with fail
          go_ret
          exact ⟨by (rw [HR.out] <;> rfl), below_dn (below_step3 HB.out) m⟩
        | true =>
        have HOK : Hid (okA (F k) (D k) (U k) = true) := by unfold okA; rw [c1, c2, c3, c4, c5]; rfl
        rw [c5] at hff
        have d1 := c1; have d2 := c2; have d3 := c3; have d4 := c4
        unfold geB at d1 d3 d4
        unfold gtB at d2
        clear hbel c1 c2 c3 c4 c5
        go_wp2_with fail
        refine (l01Fine _ _).mono ?_
        rintro e w1 ⟨rfl, m, rfl⟩
        rw [hff]
        clear d1 d2 d3 d4
        go_wp2_with fail
        have hlt' : b < wr.heap.size := Nat.lt_of_lt_of_le HL.out HB.out.size
        rcases Nat.eq_zero_or_pos k with hk0 | hk0
        · have hg : decide ((k : Int) > 0) = false := by simp; omega
          clear t1 t2 t3 hlt' hn hc
          go_quiet (fail)
          go_wp2_with fail
          go_roundw
          case rel =>
            refine ⟨k + 1, by omega, by go_num, ?_, by first | exact below_dn (below_step3 HB.out) _ | exact below_dn (below_dn (below_step3 HB.out) _) _⟩
            intro j hj
            by_cases hjk : j = k
            · subst hjk; exact ⟨HOK.out, fun h => absurd h (by omega)⟩
            · exact HG.out j (by omega)
          case measure => simp [intOf]; omega
        · have hg : decide ((k : Int) > 0) = true := by simp; omega
          have hpk := hcells (k - 1) (by omega)
          obtain ⟨⟨s1, s2, s3⟩, _⟩ := hpk
          have p1 := (HB.out.cell (p := ⟨b, off + (k - 1) * 3, none⟩) hlt).trans s1
          have p3 := (HB.out.cell (p := ⟨b, off + (k - 1) * 3 + 2, none⟩) hlt).trans s3
          clear s1 s2 s3 t1 t2 t3
          have i1 : IntKind.i64.wrap ((k : Int) - 1) = (k : Int) - 1 := IntWalk.i64_in _ (by omega)
          have i2 : (0 : Int) ≤ (k : Int) - 1 := by omega
          have i3 : ((k : Int) - 1).toNat = k - 1 := by omega
          have i4 : (k : Int) - 1 < (n : Int) := by omega
          cases e1 : gtB (F k) (F (k - 1)) with
          | false =>
            have HR := Lib.hid (BADP.out hk0 (by unfold okP; simp [*]))
            unfold gtB at e1
            go_quiet (fail)
            go_wp2_with fail
            go_ret
            exact ⟨by (rw [HR.out] <;> rfl), by first | exact below_dn (below_step3 HB.out) _ | exact below_dn (below_dn (below_step3 HB.out) _) _⟩
          | true =>
          cases e2 : leB (D k) (U (k - 1)) with
          | false =>
            have HR := Lib.hid (BADP.out hk0 (by unfold okP; simp [*]))
            unfold gtB at e1
            unfold leB at e2
            go_quiet (fail)
            go_wp2_with fail
            go_ret
            exact ⟨by (rw [HR.out] <;> rfl), by first | exact below_dn (below_step3 HB.out) _ | exact below_dn (below_dn (below_step3 HB.out) _) _⟩
          | true =>
            have HP : Hid (okP (F k) (D k) (F (k - 1)) (U (k - 1)) = true) := by unfold okP; rw [e1, e2]; rfl
            unfold gtB at e1
            unfold leB at e2
            go_quiet (fail)
            go_wp2_with fail
            go_roundw
            case rel =>
              refine ⟨k + 1, by omega, by go_num, ?_, by first | exact below_dn (below_step3 HB.out) _ | exact below_dn (below_dn (below_step3 HB.out) _) _⟩
              intro j hj
              by_cases hjk : j = k
              · subst hjk; exact ⟨HOK.out, fun _ => HP.out⟩
              · exact HG.out j (by omega)
            case measure => simp [intOf]; omega
      · have : k = n := by omega
        subst this
        have HB := Lib.hid hbel
        have HR : Hid (goodB k F D U = true) := decide_eq_true ⟨h0, hgood⟩
        clear hgood
        go_wp2_with fail
        go_ret
        exact ⟨by (rw [HR.out] <;> rfl), HB.out⟩
  · have HR : Hid (goodB n F D U = false) := decide_eq_false fun h => h0 h.1
    go_enter Try.func16, Try.ntmps16
    go_wp2_with fail
    refine (inR.l01In_any _ _ _ _).mono ?_
    rintro e w1 ⟨rfl, rfl⟩
    rw [show (decide ((1 : Int) ≤ (n : Int) ∧ (n : Int) ≤ 12)) = false from decide_eq_false (by omega)]
    go_wp2_with fail
    go_ret
    exact ⟨by (rw [HR.out] <;> rfl), Below.refl _ _⟩
end Go.Proofs.Ytjclldiaddoobaa.rng
