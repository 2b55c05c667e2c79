/- Contracts of Overload in both packages. -/
import Derived.Test.YtjclldiaddoobaaRngF
import Derived.Test.YtjclldiaddoobaaSub
namespace Go.Proofs.Ytjclldiaddoobaa.rng
open Go.RowKit base Fl same
set_option linter.unusedVariables false

/-- what Overload tells -/
def overB (n : Nat) (F D U : Nat → Nat) (a : Int) (x : Nat) : Bool := okAt n F D U a && !leB (amt x) (F a.toNat)

theorem Rs.drew {w : World} {A : Option Addr} {n c : Nat} {F D U : Nat → Nat} (h : Rs w A n c F D U) : Rs w.drew A n c F D U := h.below (Below.refl _ _).drew
theorem below_from_drew {w w1 : World} (h : Below w.drew.heap.size w.drew w1) : Below w.heap.size w w1 := (Below.refl w.heap.size w).drew.trans h

theorem Rs.sub {w : World} {A : Option Addr} {n c : Nat} {F D U : Nat → Nat} (h : Rs w A n c F D U) (u : Sub w) : Rs u.val A n c F D U := h.below u.2

theorem inB_true {n : Nat} {a : Int} (h : inB n a = true) : ∃ k : Nat, a = k ∧ k < n := by
  have := of_decide_eq_true h
  exact ⟨a.toNat, by omega, by omega⟩

set_option maxHeartbeats 1000000 in
theorem spec_Overload (A : Option Addr) (n c : Nat) (F D U : Nat → Nat) (a : Int) (x : Nat) (w : World) (h : Rs w A n c F D U) :
    Calls Try.prog 23 #[.slice A n c, .int .i64 a, .float .f32 x] w fun e w' => e = .returned (.bool (overB n F D U a x)) ∧ Below w.heap.size w w' := by
  have hn : n ≤ 9223372036854775807 := Nat.le_trans h.1 h.2.1
  cases hg : goodB n F D U with
  | false =>
    have HR : Hid (overB n F D U a x = false) := by show _ = _; unfold overB okAt; rw [hg]; rfl
    go_enter Try.func23, Try.ntmps23
    go_wp2_with fail
    refine (spec_ok A n c F D U _ h).mono ?_
    rintro e w1 ⟨rfl, b1⟩
    rw [hg]
    go_wp2_with fail
    go_ret
    exact ⟨by (rw [HR.out] <;> rfl), b1⟩
  | true =>
  have e1 : RowKit.wrap64 ((n : Int) - 1) = (n : Int) - 1 := by unfold RowKit.wrap64; omega
  cases hi : inB n a with
  | false =>
    have HR : Hid (overB n F D U a x = false) := by show _ = _; unfold overB okAt; rw [hg, hi]; rfl
    go_enter Try.func23, Try.ntmps23
    go_wp2_with fail
    refine (spec_ok A n c F D U _ h).mono ?_
    rintro e w1 ⟨rfl, b1⟩
    rw [hg]
    go_wp2_with fail
    refine (inR.l01In_any _ _ _ _).mono ?_
    rintro e w2 ⟨rfl, rfl⟩
    rw [show decide (0 ≤ a ∧ a ≤ (n : Int) - 1) = false from hi]
    go_wp2_with fail
    go_ret
    exact ⟨by (rw [HR.out] <;> rfl), b1⟩
  | true =>
    have hi' := hi
    obtain ⟨k, rfl, hk⟩ := inB_true hi'
    clear hi'
    have HR : Hid (overB n F D U k x = !leB (amt x) (F k)) := by show _ = _; unfold overB okAt; rw [hg, hi]; rfl
    obtain ⟨b, off, rfl, hlt, hcells⟩ := h.2.2 (by omega)
    have s1 := (hcells k hk).1.1
    clear hcells
    go_enter Try.func23, Try.ntmps23
    go_wp2_with fail
    refine (spec_ok _ n c F D U _ h).mono ?_
    rintro e w1 ⟨rfl, b1⟩
    rw [hg]
    go_wp2_with fail
    refine (inR.l01In_any _ _ _ _).mono ?_
    rintro e w2 ⟨rfl, rfl⟩
    rw [show decide (0 ≤ (k : Int) ∧ (k : Int) ≤ (n : Int) - 1) = true from hi]
    have t1 := (b1.cell (p := ⟨b, off + k * 3, none⟩) hlt).trans s1
    have B1 := Lib.hid b1
    clear s1 b1 h hlt e1 hi hg
    go_wp2_with fail
    go_quiet ((go_at_call 51; refine qs (l02Amount x _)))
    go_wp2_with fail
    go_ret
    exact ⟨by (rw [HR.out]; unfold leB; rw [Bool.not_or]; rfl), below_dn B1.out _⟩
set_option maxHeartbeats 1000000 in
theorem impl_Overload (A : Option Addr) (n c : Nat) (F D U : Nat → Nat) (a : Int) (x : Nat) (w : World) (h : Rs w A n c F D U) :
    Calls Try.prog 24 #[.slice A n c, .int .i64 a, .float .f32 x] w fun e w' => e = .returned (.bool (overB n F D U a x)) ∧ Below w.heap.size w w' := by
  have hn : n ≤ 9223372036854775807 := Nat.le_trans h.1 h.2.1
  cases hg : okAt n F D U a with
  | false =>
    have HR : Hid (overB n F D U a x = false) := by show _ = _; unfold overB; rw [hg]; rfl
    go_enter Try.func24, Try.ntmps24
    go_wp2_with fail
    refine wp_sub (by kernel_rfl) (by kernel_rfl) ?_
    repeat (go_big_quiet_step ((refine sub_call (rangeOk_of A n c F D U a _ (h.sub _) hg))))
    refine wpQuiet_nil ?_
    rintro _ ⟨⟨w1, b1⟩, rfl⟩
    go_wp2_with fail
    go_ret
    exact ⟨by (rw [HR.out] <;> rfl), b1⟩
  | true =>
    have hg' := hg
    unfold okAt at hg'
    obtain ⟨k, rfl, hk⟩ := inB_true (Bool.and_eq_true_iff.1 hg').2
    clear hg'
    have HR : Hid (overB n F D U k x = !leB (amt x) (F k)) := by show _ = _; unfold overB; rw [hg]; rfl
    obtain ⟨b, off, rfl, hlt, hcells⟩ := h.2.2 (by omega)
    have s1 := (hcells k hk).1.1
    clear hcells
    go_enter Try.func24, Try.ntmps24
    go_wp2_with fail
    have t1 := Sub.cell s1 hlt
    clear s1 hlt
    refine wp_sub (by kernel_rfl) (by kernel_rfl) ?_
    repeat (go_big_quiet_step ((first
      | (refine sub_call (rangeOk_of _ n c F D U k _ (h.sub _) hg))
      | (refine sub_same (amount x _)))))
    refine wpQuiet_nil ?_
    rintro _ ⟨⟨w1, b1⟩, rfl⟩
    go_wp2_with fail
    go_ret
    exact ⟨by (rw [HR.out]; unfold leB; rw [Bool.not_or]; rfl), b1⟩
end Go.Proofs.Ytjclldiaddoobaa.rng
