/- Two lists of the same ranges are equal, says eqRangeS. -/
import Derived.Test.YtjclldiaddoobaaRng
import Derived.StillTailTactics
namespace Go.Proofs.Ytjclldiaddoobaa.rng
open Go.RowKit base Fl same
set_option linter.unusedVariables false

/-- a single, made a float64 -/
def Up (x z : Nat) : Prop := z < 2 ^ 64 ∧ (num S x = true → z = up x) ∧ (num S x = false → num D z = false)
theorem conv_up (P : Program) (x : Nat) (hx : x < 2 ^ 32) (src dst : TypeId) (hs : (P.underlying src).isSome = true) (hd : P.underlying dst = some (.float .f64)) (w : World) (n : Nat) :
    ∃ (z m : Nat), (convert src dst (.float .f32 x)).run P (w.drewN n) = .ok (.float .f64 z) (w.drewN m) ∧ Up x z := by
  cases hx' : num S x with
  | true =>
    obtain ⟨h1, h2, h3, h4⟩ := up_num hx'
    exact ⟨up x, n, run_convert_float_float _ src dst .f32 .f64 x _ hs hd h1, h4, fun _ => rfl, fun h => by rw [hx'] at h; cases h⟩
  | false =>
    obtain ⟨nb, hnb, hrun⟩ := run_conv_nan P (s := .f32) (k := .f64) (by decide) hx' src dst hs hd
    exact ⟨_, n + 1, hrun _, (hnb _).2, fun h => (by rw [hx'] at h; cases h), fun _ => (hnb _).1⟩
theorem Up.same {x z z' : Nat} (h : Up x z) (h' : Up x z') : smB z z' = true := by
  cases hx : num S x with
  | true =>
    have e1 := h.2.1 hx
    have e2 := h'.2.1 hx
    subst e1 e2
    have := (up_num hx).2.1
    rw [smB_num this this]; simp
  | false => rw [smB_l (h.2.2 hx), h'.2.2 hx]; rfl

set_option maxHeartbeats 1000000 in
theorem eqRange (f d u : Nat) (hf : f < 2 ^ 32) (hd : d < 2 ^ 32) (hu : u < 2 ^ 32) (w : World) : Calls Try.prog 49 #[.agg #[.float .f32 f, .float .f32 d, .float .f32 u], .agg #[.float .f32 f, .float .f32 d, .float .f32 u]] w fun e w' => e = .returned (.bool true) ∧ Below w.heap.size w w' := by
  have hs : (Try.prog.underlying 29).isSome = true := by rw [Try.underlying29]; rfl
  have hdd := Try.underlying33
  have cu := fun (x : Nat) (hx : x < 2 ^ 32) (n : Nat) => conv_up Try.prog x hx 29 33 hs hdd ((w.alloc (.cells #[.float .f32 f, .float .f32 d, .float .f32 u] 57)).alloc (.cells #[.float .f32 f, .float .f32 d, .float .f32 u] 57)) n
  obtain ⟨z1, m1, c1, q1⟩ := cu f hf 0
  obtain ⟨z2, m2, c2, q2⟩ := cu f hf m1
  obtain ⟨z3, m3, c3, q3⟩ := cu d hd m2
  obtain ⟨z4, m4, c4, q4⟩ := cu d hd m3
  obtain ⟨z5, m5, c5, q5⟩ := cu u hu m4
  obtain ⟨z6, m6, c6, q6⟩ := cu u hu m5
  clear cu
  rw [drewN0] at c1
  have s1 := q1.same q2
  have s2 := q3.same q4
  have s3 := q5.same q6
  have l1 := Lib.hid q1.1; have l2 := Lib.hid q2.1; have l3 := Lib.hid q3.1; have l4 := Lib.hid q4.1; have l5 := Lib.hid q5.1; have l6 := Lib.hid q6.1
  clear q1 q2 q3 q4 q5 q6
  have B : Hid (Below w.heap.size w ((w.alloc (.cells #[.float .f32 f, .float .f32 d, .float .f32 u] 57)).alloc (.cells #[.float .f32 f, .float .f32 d, .float .f32 u] 57))) := ((Below.refl _ _).alloc (Nat.le_refl _) _).alloc (by simp) _
  go_enter Try.func49, Try.ntmps49
  go_wp2_with fail
  refine (sameFloat z1 z2 l1.out l2.out _).mono ?_
  rintro e w1 ⟨rfl, rfl⟩
  go_wp2_with fail
  refine (sameFloat z3 z4 l3.out l4.out _).mono ?_
  rintro e w1 ⟨rfl, rfl⟩
  go_wp2_with fail
  refine (sameFloat z5 z6 l5.out l6.out _).mono ?_
  rintro e w1 ⟨rfl, rfl⟩
  go_wp2_with fail
  go_ret
  exact ⟨rfl, B.out.os, B.out.tape, B.out.output, B.out.size, B.out.block⟩

set_option maxHeartbeats 1000000 in
theorem eqRangeS (A B : Option Addr) (n c c' : Nat) (F D U : Nat → Nat) (w : World) (h : Rs w A n c F D U) (h' : Rs w B n c' F D U) (hn : n ≤ 1048576) :
    Calls Try.prog 19 #[.slice A n c, .slice B n c'] w fun e w' => e = .returned (.bool true) ∧ Below w.heap.size w w' := by
  rcases Nat.eq_zero_or_pos n with h0 | h0
  · subst h0
    go_enter Try.func19, Try.ntmps19
    go_wp2_with fail
    go_loopw [5] (fun i wr => i = .int .i64 0 ∧ wr = w) (fun _ _ => 0)
    case atStart => exact ⟨rfl, rfl⟩
    case round =>
      obtain ⟨rfl, rfl⟩ := hrel
      go_wp2_with fail
      go_ret
      exact ⟨rfl, Below.refl _ _⟩
  · obtain ⟨b, off, rfl, hlt, hcells⟩ := h.2.2 h0
    obtain ⟨b', off', rfl, hlt', hcells'⟩ := h'.2.2 h0
    clear h h'
    go_enter Try.func19, Try.ntmps19
    go_wp2_with fail
    go_loopw [5] (fun i wr => ∃ k : Nat, k ≤ n ∧ i = .int .i64 k ∧ Below w.heap.size w wr) (fun i _ => n - (intOf i).toNat)
    case atStart => exact ⟨0, Nat.zero_le _, rfl, Below.refl _ _⟩
    case round =>
      obtain ⟨k, hk, rfl, hbel⟩ := hrel
      by_cases hkn : k < n
      · obtain ⟨⟨s1, s2, s3⟩, l1, l2, l3⟩ := hcells k hkn
        obtain ⟨⟨r1, r2, r3⟩, _⟩ := hcells' k hkn
        have t1 := (hbel.cell (p := ⟨b, off + k * 3, none⟩) hlt).trans s1
        have t2 := (hbel.cell (p := ⟨b, off + k * 3 + 1, none⟩) hlt).trans s2
        have t3 := (hbel.cell (p := ⟨b, off + k * 3 + 2, none⟩) hlt).trans s3
        have u1 := (hbel.cell (p := ⟨b', off' + k * 3, none⟩) hlt').trans r1
        have u2 := (hbel.cell (p := ⟨b', off' + k * 3 + 1, none⟩) hlt').trans r2
        have u3 := (hbel.cell (p := ⟨b', off' + k * 3 + 2, none⟩) hlt').trans r3
        clear s1 s2 s3 r1 r2 r3
        have HB := Lib.hid hbel
        have L1 := Lib.hid l1; have L2 := Lib.hid l2; have L3 := Lib.hid l3
        clear hbel l1 l2 l3
        go_wp2_with fail
        go_still_tail 8, (by kernel_rfl)
        change wpList _ _ _ _ _ wr.drew
        go_wp2_with fail
        refine (eqRange (F k) (D k) (U k) L1.out L2.out L3.out _).mono ?_
        rintro e w1 ⟨rfl, b1⟩
        have HB1 := Lib.hid b1
        clear b1 t1 t2 t3 u1 u2 u3
        go_wp2_with fail
        go_roundw
        case rel => exact ⟨k + 1, by omega, by go_num, HB.out.drew.trans (HB1.out.mono HB.out.size)⟩
        case measure => simp [intOf]; omega
      · have : k = n := by omega
        subst this
        go_wp2_with fail
        go_ret
        exact ⟨rfl, hbel⟩
end Go.Proofs.Ytjclldiaddoobaa.rng
