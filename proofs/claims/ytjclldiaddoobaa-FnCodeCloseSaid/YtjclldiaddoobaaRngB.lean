/- Contracts of BestRange in both packages. -/
import Derived.Test.YtjclldiaddoobaaRngO
namespace Go.Proofs.Ytjclldiaddoobaa.rng
open Go.RowKit base Fl same
set_option linter.unusedVariables false
attribute [local go_sem] store_f

/-- the first range that holds a reading -/
def firstAt (n : Nat) (F : Nat → Nat) (x : Nat) : Nat → Int
  | 0 => -1
  | k + 1 => if leB (amt x) (F (n - (k + 1))) then ((n - (k + 1) : Nat) : Int) else firstAt n F x k
/-- what BestRange tells -/
def best (n : Nat) (F D U : Nat → Nat) (x : Nat) : Int := if goodB n F D U then firstAt n F x n else -1

theorem firstAt_skip {n : Nat} {F : Nat → Nat} {x k : Nat} (hk : k ≤ n) (h : ∀ j, j < k → leB (amt x) (F j) = false) : firstAt n F x n = firstAt n F x (n - k) := by
  induction k with
  | zero => rfl
  | succ k ih =>
    rw [ih (by omega) (fun j hj => h j (by omega))]
    have e : n - k = (n - (k + 1)) + 1 := by omega
    rw [e]
    show (if leB (amt x) (F (n - (n - (k + 1) + 1))) then _ else firstAt n F x (n - (k + 1))) = _
    rw [show n - (n - (k + 1) + 1) = k by omega, h k (by omega)]
    rfl
theorem best_at {n : Nat} {F D U : Nat → Nat} {x k : Nat} (hg : goodB n F D U = true) (hk : k < n) (h : ∀ j, j < k → leB (amt x) (F j) = false) (hl : leB (amt x) (F k) = true) : best n F D U x = k := by
  unfold best
  rw [hg, if_pos rfl, firstAt_skip (k := k) (by omega) h]
  have e : n - k = (n - (k + 1)) + 1 := by omega
  rw [e]
  show (if leB (amt x) (F (n - (n - (k + 1) + 1))) then ((n - (n - (k + 1) + 1) : Nat) : Int) else _) = _
  rw [show n - (n - (k + 1) + 1) = k by omega, hl]
  rfl
theorem best_none {n : Nat} {F D U : Nat → Nat} {x : Nat} (hg : goodB n F D U = true) (h : ∀ j, j < n → leB (amt x) (F j) = false) : best n F D U x = -1 := by
  unfold best
  rw [hg, if_pos rfl, firstAt_skip (k := n) (Nat.le_refl _) h, Nat.sub_self]
  rfl
theorem geB_swap (x y : Nat) : geB y x = leB x y := by
  unfold geB leB
  cases hx : num S x with
  | false => rw [show S.order y x = none from ordNanR (k := .f32) hx y, show S.order x y = none from ordNanL (k := .f32) hx y]; rfl
  | true =>
    cases hy : num S y with
    | false => rw [show S.order y x = none from ordNanL (k := .f32) hy x, show S.order x y = none from ordNanR (k := .f32) hy x]; rfl
    | true =>
      rcases Int.lt_trichotomy (key S x) (key S y) with h | h | h
      · rw [show S.order y x = some .gt from ordGt (k := .f32) hy hx h, show S.order x y = some .lt from ordLt (k := .f32) hx hy h]; rfl
      · rw [show S.order y x = some .eq from ordEq (k := .f32) hy hx h.symm, show S.order x y = some .eq from ordEq (k := .f32) hx hy h]; rfl
      · rw [show S.order y x = some .lt from ordLt (k := .f32) hy hx h, show S.order x y = some .gt from ordGt (k := .f32) hx hy h]; rfl

set_option maxHeartbeats 1000000 in
theorem spec_BestRange (A : Option Addr) (n c : Nat) (F D U : Nat → Nat) (x : Nat) (w : World) (h : Rs w A n c F D U) :
    Calls Try.prog 25 #[.slice A n c, .float .f32 x] w fun e w' => e = .returned (.int .i64 (best n F D U x)) ∧ Below w.heap.size w w' := by
  have hn : n ≤ 9223372036854775807 := Nat.le_trans h.1 h.2.1
  cases hg : goodB n F D U with
  | false =>
    have HR : Hid (best n F D U x = -1) := by show _ = _; unfold best; rw [hg]; rfl
    rcases Nat.eq_zero_or_pos n with h0 | h0
    · subst h0
      go_enter Try.func25, Try.ntmps25
      go_wp2_with fail
      go_loopw [5] (fun i wr => i = .int .i64 0 ∧ wr = w) (fun _ _ => 0)
      case atStart => exact ⟨rfl, rfl⟩
      case round =>
        obtain ⟨rfl, rfl⟩ := hrel
        go_wp2_with fail
        go_ret
        exact ⟨by (rw [HR.out] <;> rfl), Below.refl _ _⟩
    · go_enter Try.func25, Try.ntmps25
      go_wp2_with fail
      go_loopw [5] (fun i wr => i = .int .i64 0 ∧ wr = w) (fun _ _ => 0)
      case atStart => exact ⟨rfl, rfl⟩
      case round =>
        obtain ⟨rfl, rfl⟩ := hrel
        have hd : decide ((0 : Int) < (n : Int)) = true := by simp; omega
        go_wp2_with fail
        refine (spec_ok A n c F D U _ h).mono ?_
        rintro e w1 ⟨rfl, b1⟩
        rw [hg]
        go_wp2_with fail
        go_ret
        exact ⟨by (rw [HR.out] <;> rfl), b1⟩
  | true =>
    have h1n : 1 ≤ n := (of_decide_eq_true hg).1.1
    obtain ⟨b, off, rfl, hlt, hcells⟩ := h.2.2 (by omega)
    go_enter Try.func25, Try.ntmps25
    go_wp2_with fail
    go_loopw [5] (fun i wr => ∃ k : Nat, k ≤ n ∧ i = .int .i64 k ∧ (∀ j, j < k → leB (amt x) (F j) = false) ∧ Below w.heap.size w wr) (fun i _ => n - (intOf i).toNat)
    case atStart => exact ⟨0, Nat.zero_le _, rfl, fun j hj => absurd hj (by omega), Below.refl _ _⟩
    case round =>
      obtain ⟨k, hk, rfl, hbefore, hbel⟩ := hrel
      by_cases hkn : k < n
      · have hd : decide ((k : Int) < (n : Int)) = true := by simp; omega
        have s1 := (hcells k hkn).1.1
        have HBF := Lib.hid hbefore
        have HB := Lib.hid hbel
        clear hbefore
        go_wp2_with fail
        refine (spec_ok _ n c F D U _ (h.below hbel)).mono ?_
        rintro e w1 ⟨rfl, b1⟩
        rw [hg]
        have bb := hbel.trans (b1.mono hbel.size)
        have t1 := (bb.cell (p := ⟨b, off + k * 3, none⟩) hlt).trans s1
        have BB := Lib.hid bb
        clear s1 b1 bb hbel
        cases hl : leB (amt x) (F k) with
        | true =>
          have HR : Hid (best n F D U x = k) := best_at hg hkn HBF.out hl
          unfold leB at hl
          go_wp2_with fail
          go_quiet ((go_at_call 51; refine qs (l02Amount x _)))
          go_wp2_with fail
          go_ret
          exact ⟨by (rw [HR.out] <;> rfl), below_dn BB.out _⟩
        | false =>
          have hl' := hl
          unfold leB at hl'
          have HL := Lib.hid hl
          clear hl
          go_wp2_with fail
          go_quiet ((go_at_call 51; refine qs (l02Amount x _)))
          go_wp2_with fail
          go_roundw
          case rel =>
            refine ⟨k + 1, by omega, by go_num, fun j hj => ?_, below_dn BB.out _⟩
            by_cases hjk : j = k
            · subst hjk; exact HL.out
            · exact HBF.out j (by omega)
          case measure => simp [intOf]; omega
      · have : k = n := by omega
        subst this
        have HR : Hid (best k F D U x = -1) := best_none hg hbefore
        have HB := Lib.hid hbel
        clear hbefore hbel
        go_wp2_with fail
        go_ret
        exact ⟨by (rw [HR.out] <;> rfl), HB.out⟩

set_option maxHeartbeats 1000000 in
theorem impl_BestRange (A : Option Addr) (n c : Nat) (F D U : Nat → Nat) (x : Nat) (w : World) (h : Rs w A n c F D U) :
    Calls Try.prog 26 #[.slice A n c, .float .f32 x] w fun e w' => e = .returned (.int .i64 (best n F D U x)) ∧ Below w.heap.size w w' := by
  have hn : n ≤ 9223372036854775807 := Nat.le_trans h.1 h.2.1
  cases hg : goodB n F D U with
  | false =>
    have HR : Hid (best n F D U x = -1) := by show _ = _; unfold best; rw [hg]; rfl
    go_enter Try.func26, Try.ntmps26
    go_wp2_with fail
    refine (impl_ok A n c F D U _ h).mono ?_
    rintro e w1 ⟨rfl, b1⟩
    rw [hg]
    go_wp2_with fail
    go_ret
    exact ⟨by (rw [HR.out] <;> rfl), b1⟩
  | true =>
    have h1n : 1 ≤ n := (of_decide_eq_true hg).1.1
    obtain ⟨b, off, rfl, hlt, hcells⟩ := h.2.2 (by omega)
    go_enter Try.func26, Try.ntmps26
    go_wp2_with fail
    refine (impl_ok _ n c F D U _ h).mono ?_
    rintro e w1 ⟨rfl, b1⟩
    rw [hg]
    have HB1 := Lib.hid b1
    clear b1
    go_wp2_with fail
    go_loopw [12] (fun i wr => ∃ k : Nat, k ≤ n ∧ i = .int .i64 k ∧ (∀ j, j < k → leB (amt x) (F j) = false) ∧ Below w.heap.size w wr) (fun i _ => n - (intOf i).toNat)
    case atStart => exact ⟨0, Nat.zero_le _, rfl, fun j hj => absurd hj (by omega), HB1.out⟩
    case round =>
      obtain ⟨k, hk, rfl, hbefore, hbel⟩ := hrel
      by_cases hkn : k < n
      · obtain ⟨⟨s1, s2, s3⟩, _⟩ := hcells k hkn
        have t1 := (hbel.cell (p := ⟨b, off + k * 3, none⟩) hlt).trans s1
        have t2 := (hbel.cell (p := ⟨b, off + k * 3 + 1, none⟩) hlt).trans s2
        have t3 := (hbel.cell (p := ⟨b, off + k * 3 + 2, none⟩) hlt).trans s3
        have HBF := Lib.hid hbefore
        have HB := Lib.hid hbel
        clear hbefore hbel s1 s2 s3
        cases hl : leB (amt x) (F k) with
        | true =>
          have HR : Hid (best n F D U x = k) := best_at hg hkn HBF.out hl
          have hl2 := hl
          rw [← geB_swap] at hl2
          unfold geB at hl2
          clear hl
          go_wp2_with fail
          go_quiet ((go_at_call 52; refine qs (amount x _)))
          go_wp2_with fail
          go_ret
          exact ⟨by (rw [HR.out] <;> rfl), below_dn (below_step3 HB.out) _⟩
        | false =>
          have hl2 := hl
          rw [← geB_swap] at hl2
          unfold geB at hl2
          have HL := Lib.hid hl
          clear hl
          go_wp2_with fail
          go_quiet ((go_at_call 52; refine qs (amount x _)))
          go_wp2_with fail
          go_roundw
          case rel =>
            refine ⟨k + 1, by omega, by go_num, fun j hj => ?_, below_dn (below_step3 HB.out) _⟩
            by_cases hjk : j = k
            · subst hjk; exact HL.out
            · exact HBF.out j (by omega)
          case measure => simp [intOf]; omega
      · have : k = n := by omega
        subst this
        have HR : Hid (best k F D U x = -1) := best_none hg hbefore
        have HB := Lib.hid hbel
        clear hbefore hbel
        go_wp2_with fail
        go_ret
        exact ⟨by (rw [HR.out] <;> rfl), HB.out⟩
end Go.Proofs.Ytjclldiaddoobaa.rng
