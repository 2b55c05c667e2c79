/- Two lists of the same singles are equal, says eqFloat32S. -/
import Derived.Test.YtjclldiaddoobaaFlo
namespace Go.Proofs.Ytjclldiaddoobaa.rng
open Go.RowKit base Fl same
set_option linter.unusedVariables false

set_option maxHeartbeats 2000000 in
theorem eqFloat32S (A B : Option Addr) (n c c' : Nat) (X : Nat → Nat) (w : World) (h : Fs w A n c X) (h' : Fs w B n c' X) (hn : n ≤ 1048576) :
    Calls Try.prog 37 #[.slice A n c, .slice B n c'] w fun e w' => e = .returned (.bool true) ∧ Below w.heap.size w w' := by
  have hs : (Try.prog.underlying 29).isSome = true := by rw [Try.underlying29]; rfl
  have hdd := Try.underlying33
  rcases Nat.eq_zero_or_pos n with h0 | h0
  · subst h0
    go_enter Try.func37, Try.ntmps37
    go_wp2_with fail
    go_loopw [5] (fun i wr => i = .int .i64 0 ∧ wr = w) (fun _ _ => 0)
    case atStart => exact ⟨rfl, rfl⟩
    case round =>
      obtain ⟨rfl, rfl⟩ := hrel
      go_wp2_with fail
      go_ret
      exact ⟨rfl, Below.refl _ _⟩
  · obtain ⟨b, off, rfl, hlt, hcells⟩ := h.2.2 h0
    obtain ⟨b', off', rfl, hlt', hcells'⟩ := h'.2.2 h0
    clear h h'
    go_enter Try.func37, Try.ntmps37
    go_wp2_with fail
    go_loopw [5] (fun i wr => ∃ k : Nat, k ≤ n ∧ i = .int .i64 k ∧ Below w.heap.size w wr) (fun i _ => n - (intOf i).toNat)
    case atStart => exact ⟨0, Nat.zero_le _, rfl, Below.refl _ _⟩
    case round =>
      obtain ⟨k, hk, rfl, hbel⟩ := hrel
      have HB := Lib.hid hbel
      by_cases hkn : k < n
      · have t1 := (hbel.cell (p := ⟨b, off + k, none⟩) hlt).trans (hcells k hkn).1
        have t2 := (hbel.cell (p := ⟨b', off' + k, none⟩) hlt').trans (hcells' k hkn).1
        clear hbel
        cases hx : num S (X k) with
        | true =>
          obtain ⟨u1, u2, u3, u4⟩ := up_num hx
          have hcv : ∀ W : World, (convert 29 33 (.float .f32 (X k))).run Try.prog W = .ok (.float .f64 (up (X k))) W := fun W =>
            run_convert_float_float W 29 33 .f32 .f64 _ _ hs hdd u1
          have HS : Hid (smB (up (X k)) (up (X k)) = true) := by show _ = _; rw [smB_num u2 u2]; simp
          have H4 := Lib.hid u4
          clear u1 u2 u3 u4 hx
          go_wp2_with fail
          go_quiet ((refine Calls.quiet_of_same ((sameFloat _ _ H4.out H4.out _).mono fun _ _ h => ⟨h.1.trans (by rw [HS.out]), h.2.symm⟩)))
          go_wp2_with fail
          go_roundw
          case rel => exact ⟨k + 1, by omega, by go_num, ⟨HB.out.os, HB.out.tape, HB.out.output, HB.out.size, HB.out.block⟩⟩
          case measure => simp [intOf]; omega
        | false =>
          obtain ⟨nb, hnb, hcv⟩ := run_conv_nan Try.prog (s := .f32) (k := .f64) (by decide) hx 29 33 hs hdd
          have HS : Hid (∀ W V, smB (nb W) (nb V) = true) := fun W V => by rw [smB_l (hnb W).1, (hnb V).1]; rfl
          have H4 := Lib.hid hnb
          clear hnb hx
          go_wp2_with fail
          go_region_with ((go_at_call 22; refine (sameFloat _ _ (H4.out _).2 (H4.out _).2 _).mono ?_; rintro e w1 ⟨rfl, rfl⟩; rw [HS.out]))
          all_goals
            (go_wp2_with fail
             go_roundw
             case rel => exact ⟨k + 1, by omega, by go_num, ⟨HB.out.os, HB.out.tape, HB.out.output, HB.out.size, HB.out.block⟩⟩
             case measure => simp [intOf]; omega)
      · have : k = n := by omega
        subst this
        go_wp2_with fail
        go_ret
        exact ⟨rfl, hbel⟩
end Go.Proofs.Ytjclldiaddoobaa.rng
