/- Rows of texts: markText, eqStringS, markStringS, heldStringS. -/
import Derived.Test.YtmpeolnnfblbkaaDoorFmt
import Derived.Test.YtmpeolnnfblbkaaDoorSfI
import Derived.Test.YtmpeolnnfblbkaaDoorSub
import Derived.Deep.QuietTactic
import Derived.BigQuiet
namespace Go.Proofs.YtmpeolnnfblbkaaDoor.sf
open Go.RowKit base fmt
set_option linter.unusedVariables false

def mt (k : Nat) : ByteArray := ⟨(109 :: dd k).toArray⟩
theorem cat_m (l : List UInt8) : (⟨#[109]⟩ : ByteArray) ++ ⟨l.toArray⟩ = ⟨(109 :: l).toArray⟩ := cat_one 109 l

set_option maxHeartbeats 1000000 in
theorem markText (N : Nat) (h0 : 1 ≤ N) (h1 : N ≤ 1000) (w : World) : Calls Tryd.prog 28 #[.int .i64 N] w fun e w' => e = .returned (.string (mt N)) ∧ Below w.heap.size w w' := by
  have hN : 0 < N := by omega
  have hne0 : ((N : Int) == 0) = false := by simp; omega
  go_enter Tryd.func28, Tryd.ntmps28
  go_wp2_with fail
  go_loopw [0, 3] (fun n s wr => ∃ (m : Nat) (l : List UInt8), n = .int .i64 (m : Int) ∧ m ≤ N ∧ s = .string ⟨l.toArray⟩ ∧ dd m ++ l = dd N ∧ Below w.heap.size w wr) (fun n _ _ => (intOf n).toNat)
  case atStart => exact ⟨N, [], rfl, Nat.le_refl _, rfl, by simp, Below.refl _ _⟩
  case round =>
    obtain ⟨m, l, rfl, hm, rfl, hdd, hbel⟩ := hrel
    have HB := Lib.hid hbel
    have HD := Lib.hid hdd
    have hll : l.length ≤ 20 := by have := dd_len (show N ≤ 9223372036854775808 by omega); rw [← hdd, List.length_append] at this; omega
    have hll2 : ¬ 9223372036854775807 < 1 + l.length := by omega
    clear hbel hdd
    by_cases hz : m = 0
    · subst hz
      have hD : Hid (dd N = l) := by have := HD.out; rw [dd_zero, List.nil_append] at this; exact this.symm
      have hgt : ¬ ((0 : Nat) : Int) > 0 := by omega
      go_wp2_with fail
      go_ret
      refine ⟨?_, HB.out⟩
      unfold mt
      rw [hD.out, ← cat_m]
      rfl
    · have HS := Lib.hid (dd_step hz)
      have hgt : (0 : Int) < (m : Int) := by omega
      have d1 : (m : Int).tmod 10 = ((m % 10 : Nat) : Int) := by rw [Int.tmod_eq_emod_of_nonneg (by omega)]; omega
      have d3 : IntKind.i64.wrap ((m % 10 : Nat) : Int) = ((m % 10 : Nat) : Int) := IntWalk.i64_in _ (by omega)
      have d4 : (m : Int).tdiv 10 = ((m / 10 : Nat) : Int) := by rw [Int.tdiv_eq_ediv_of_nonneg (by omega)]; omega
      have d5 : IntKind.i64.wrap ((m / 10 : Nat) : Int) = ((m / 10 : Nat) : Int) := IntWalk.i64_in _ (by omega)
      have hr : m % 10 < 10 := Nat.mod_lt _ (by omega)
      obtain ⟨r, hre⟩ : ∃ r, m % 10 = r := ⟨_, rfl⟩
      rw [hre] at d1 d3 hr
      have hx : Hid (dd (m / 10) ++ UInt8.ofNat (48 + r) :: l = dd N) := by
        show _ = _
        have := HD.out
        rw [HS.out, hre, List.append_assoc] at this
        exact this
      have q1 := one_str wr r hr
      have e48 : UInt8.ofNat (48 + r) = 48 + UInt8.ofNat r := by simp
      rw [e48] at hx q1
      have hm10 : m / 10 ≤ N := by omega
      have hms : m / 10 < m := by omega
      clear e48 hre
      go_wp2_with fail
      go_roundw
      case rel => exact ⟨m / 10, (48 + UInt8.ofNat r) :: l, by go_num, hm10, by rw [cat_one], hx.out, HB.out.alloc HB.out.size _⟩
      case measure => simp [intOf]; omega

/-- a row of texts in memory -/
def Ss (w : World) (A : Option Addr) (n c : Nat) (X : Nat → ByteArray) : Prop :=
  n ≤ c ∧ c ≤ 9223372036854775807 ∧ (0 < n → ∃ b off, A = some ⟨b, off, none⟩ ∧ b < w.heap.size ∧ ∀ j, j < n → w.cell? ⟨b, off + j, none⟩ = some (.string (X j)))
theorem Ss.below {w w' : World} {A : Option Addr} {n c : Nat} {X : Nat → ByteArray} (h : Ss w A n c X) (hb : Below w.heap.size w w') : Ss w' A n c X := by
  obtain ⟨h1, h2, h3⟩ := h
  refine ⟨h1, h2, fun hn => ?_⟩
  obtain ⟨b, off, e, hlt, hc⟩ := h3 hn
  exact ⟨b, off, e, Nat.lt_of_lt_of_le hlt hb.size, fun j hj => (hb.cell (p := ⟨b, off + j, none⟩) hlt).trans (hc j hj)⟩

set_option maxHeartbeats 1000000 in
theorem eqStringS (A A' : Option Addr) (n c c' : Nat) (X : Nat → ByteArray) (w : World) (h : Ss w A n c X) (h' : Ss w A' n c' X) :
    Calls Tryd.prog 15 #[.slice A n c, .slice A' n c'] w fun e w' => e = .returned (.bool true) ∧ Below w.heap.size w w' := by
  rcases Nat.eq_zero_or_pos n with h0 | h0
  · subst h0
    clear h h'
    go_enter Tryd.func15, Tryd.ntmps15
    go_wp2_with fail
    go_loopw [5] (fun i wr => i = .int .i64 0 ∧ wr = w) (fun _ _ => 0)
    case atStart => exact ⟨rfl, rfl⟩
    case round =>
      obtain ⟨rfl, rfl⟩ := hrel
      go_wp2_with fail
      go_ret
      exact ⟨rfl, Below.refl _ _⟩
  · obtain ⟨hc1, hc2, h3⟩ := h
    obtain ⟨hc1', hc2', h3'⟩ := h'
    obtain ⟨b, off, rfl, hlt, hcell⟩ := h3 h0
    obtain ⟨b', off', rfl, hlt', hcell'⟩ := h3' h0
    have HC := Lib.hid hcell
    have HC' := Lib.hid hcell'
    clear h3 h3' hcell hcell'
    go_enter Tryd.func15, Tryd.ntmps15
    go_wp2_with fail
    go_loopw [5] (fun i wr => ∃ k : Nat, k ≤ n ∧ i = .int .i64 k ∧ Below w.heap.size w wr) (fun i _ => n - (intOf i).toNat)
    case atStart => exact ⟨0, Nat.zero_le _, rfl, Below.refl _ _⟩
    case round =>
      obtain ⟨k, hk, rfl, hbel⟩ := hrel
      have HB := Lib.hid hbel
      by_cases hkn : k < n
      · have t1 := (hbel.cell (p := ⟨b, off + k, none⟩) hlt).trans (HC.out k hkn)
        have t2 := (hbel.cell (p := ⟨b', off' + k, none⟩) hlt').trans (HC'.out k hkn)
        obtain ⟨x, hx⟩ : ∃ x, X k = x := ⟨_, rfl⟩
        rw [hx] at t1 t2
        have hq : (x.toList == x.toList) = true := by simp
        clear hx hbel
        go_wp2_with fail
        go_quiet (fail)
        go_wp2_with fail
        go_roundw
        case rel => exact ⟨k + 1, by omega, by go_num, ⟨HB.out.os, HB.out.tape, HB.out.output, HB.out.size, HB.out.block⟩⟩
        case measure => simp [intOf]; omega
      · obtain rfl : k = n := by omega
        go_wp2_with fail
        go_ret
        exact ⟨rfl, hbel⟩

theorem frozen_set {w : World} {p q : Addr} {v : Value} (h : w.frozen? q = false) : (w.setCell p v).frozen? q = false := by rw [World.frozen?_setCell]; exact h
theorem setCell_some {w : World} {p q : Addr} {u v : Value} (h : w.cell? q = some u) : ∃ y, (w.setCell p v).cell? q = some y := by
  by_cases e : p = q
  · subst e; exact ⟨_, World.cell?_setCell_same _ _ _ h⟩
  · exact ⟨_, (World.cell?_setCell_other _ _ _ _ e).trans h⟩

/-- the row after k marks -/
def Mk (w wr : World) (b n k : Nat) : Prop :=
  (∀ o, o < n → wr.frozen? ⟨b, o, none⟩ = false) ∧ (∀ j, j < n → ∃ x, wr.cell? ⟨b, j, none⟩ = some x) ∧ (∀ j, j < k → wr.cell? ⟨b, j, none⟩ = some (.string (mt (1 + j)))) ∧ w.grownBy wr (some b)
theorem Mk.below {w wr wr' : World} {b n k : Nat} (h : Mk w wr b n k) (hb : Below wr.heap.size wr wr') (hlt : b < wr.heap.size) : Mk w wr' b n k := by
  obtain ⟨h1, h2, h3, h4⟩ := h
  refine ⟨fun o ho => (hb.frozen (p := ⟨b, o, none⟩) hlt).trans (h1 o ho), fun j hj => ?_, fun j hj => (hb.cell (p := ⟨b, j, none⟩) hlt).trans (h3 j hj), ?_⟩
  · obtain ⟨x, hx⟩ := h2 j hj
    exact ⟨x, (hb.cell (p := ⟨b, j, none⟩) hlt).trans hx⟩
  · exact ⟨hb.os.trans h4.os, hb.tape.trans h4.tape, hb.output.trans h4.output, Nat.le_trans h4.size hb.size, fun i hi hn => (hb.block i (Nat.lt_of_lt_of_le hi h4.size)).trans (h4.block i hi hn)⟩
theorem Mk.set {w wr : World} {b n k : Nat} (h : Mk w wr b n k) (hk : k < n) : Mk w (wr.setCell ⟨b, k, none⟩ (.string (mt (1 + k)))) b n (k + 1) := by
  obtain ⟨h1, h2, h3, h4⟩ := h
  refine ⟨fun o ho => frozen_set (h1 o ho), fun j hj => ?_, fun j hj => ?_, ?_⟩
  · obtain ⟨x, hx⟩ := h2 j hj
    exact setCell_some hx
  · by_cases hjk : j = k
    · subst hjk
      obtain ⟨x, hx⟩ := h2 j hk
      exact World.cell?_setCell_same _ _ _ hx
    · rw [World.cell?_setCell_other _ _ _ _ (by intro e; injection e with _ e; exact hjk e.symm)]
      exact h3 j (by omega)
  · exact ⟨h4.os, h4.tape, h4.output, by simpa [World.setCell] using h4.size, fun i hi hn => (Below.heap_setCell wr ⟨b, k, none⟩ _ i (by rintro rfl; exact hn rfl)).trans (h4.block i hi hn)⟩

set_option maxHeartbeats 1000000 in
theorem markStringS (b n c : Nat) (w : World) (h : Mk w w b n 0) (hc0 : n ≤ c) (hc1 : c ≤ 9223372036854775807) (hn : n ≤ 900) (hlt : b < w.heap.size) :
    Calls Tryd.prog 16 #[.slice (some ⟨b, 0, none⟩) n c, .int .i64 1] w fun e w' => e = .returned (.int .i64 (1 + n)) ∧ Mk w w' b n n := by
  have H0 := Lib.hid h
  clear h
  go_enter Tryd.func16, Tryd.ntmps16
  go_wp2_with fail
  go_loopw [1, 5] (fun kv i wr => ∃ k : Nat, k ≤ n ∧ i = .int .i64 k ∧ kv = .int .i64 (1 + k) ∧ Mk w wr b n k ∧ w.heap.size ≤ wr.heap.size) (fun _ i _ => n - (intOf i).toNat)
  case atStart => exact ⟨0, Nat.zero_le _, rfl, by simp, H0.out, Nat.le_refl _⟩
  case round =>
    obtain ⟨k, hk, rfl, rfl, hm, hsz⟩ := hrel
    have HM := Lib.hid hm
    clear hm
    by_cases hkn : k < n
    · have hlt2 : b < wr.heap.size := by omega
      go_wp2_with fail
      have e1 : (1 : Int) + (k : Int) = ((1 + k : Nat) : Int) := by omega
      rw [e1]
      refine (markText (1 + k) (by omega) (by omega) _).mono ?_
      rintro e w1 ⟨rfl, b1⟩
      have hm1 := HM.out.below b1 hlt2
      have HS := Lib.hid (hm1.set hkn)
      have HZ : Hid (w.heap.size ≤ w1.heap.size) := Nat.le_trans hsz b1.size
      have f1 := hm1.1 k hkn
      obtain ⟨y, t1⟩ := hm1.2.1 k hkn
      clear hm1 b1 e1 hsz
      go_wp2_with fail
      go_roundw
      case rel => exact ⟨k + 1, by omega, by go_num, by go_num, HS.out, by simpa [World.setCell] using HZ.out⟩
      case measure => simp [intOf]; omega
    · obtain rfl : k = n := by omega
      go_wp2_with fail
      go_ret
      exact ⟨rfl, HM.out⟩

set_option maxHeartbeats 1000000 in
theorem heldStringS (A : Option Addr) (n c : Nat) (w : World) (h : Ss w A n c (fun j => mt (1 + j))) (hn : n ≤ 900) :
    Calls Tryd.prog 17 #[.slice A n c, .int .i64 1] w fun e w' => e = .returned (.int .i64 (1 + n)) ∧ Below w.heap.size w w' := by
  rcases Nat.eq_zero_or_pos n with h0 | h0
  · subst h0
    clear h
    go_enter Tryd.func17, Tryd.ntmps17
    go_wp2_with fail
    go_loopw [1, 5] (fun kv i wr => i = .int .i64 0 ∧ kv = .int .i64 1 ∧ wr = w) (fun _ _ _ => 0)
    case atStart => exact ⟨rfl, rfl, rfl⟩
    case round =>
      obtain ⟨rfl, rfl, rfl⟩ := hrel
      go_wp2_with fail
      go_ret
      exact ⟨rfl, Below.refl _ _⟩
  · obtain ⟨hc1, hc2, h3⟩ := h
    obtain ⟨b, off, rfl, hlt, hcell⟩ := h3 h0
    have HC := Lib.hid hcell
    clear h3 hcell
    go_enter Tryd.func17, Tryd.ntmps17
    go_wp2_with fail
    go_loopw [1, 5] (fun kv i wr => ∃ k : Nat, k ≤ n ∧ i = .int .i64 k ∧ kv = .int .i64 (1 + k) ∧ Below w.heap.size w wr) (fun _ i _ => n - (intOf i).toNat)
    case atStart => exact ⟨0, Nat.zero_le _, rfl, by simp, Below.refl _ _⟩
    case round =>
      obtain ⟨k, hk, rfl, rfl, hbel⟩ := hrel
      have HB := Lib.hid hbel
      by_cases hkn : k < n
      · have t1 := (hbel.cell (p := ⟨b, off + k, none⟩) hlt).trans (HC.out k hkn)
        have hltr : b < wr.heap.size := Nat.lt_of_lt_of_le hlt hbel.size
        have e1 : (1 : Int) + (k : Int) = ((1 + k : Nat) : Int) := by omega
        have HMT : Hid (∀ w' : World, Calls Tryd.prog 28 #[.int .i64 (1 + (k : Int))] w' fun e w'' => e = .returned (.string (mt (1 + k))) ∧ Below w'.heap.size w' w'') := fun w' => by
          rw [e1]; exact markText (1 + k) (by omega) (by omega) w'
        obtain ⟨x, hx⟩ : ∃ x, mt (1 + k) = x := ⟨_, rfl⟩
        rw [hx] at t1 HMT
        have hq : (x.toList == x.toList) = true := by simp
        clear hbel hx e1
        go_wp2_with fail
        have t2 := Sub.cell t1 hltr
        clear t1
        refine wp_sub (by kernel_rfl) (by kernel_rfl) ?_
        repeat (go_big_quiet_step ((refine sub_call (HMT.out _))))
        refine wpQuiet_nil ?_
        rintro _ ⟨⟨w5, b5⟩, rfl⟩
        have HB5 := Lib.hid (HB.out.trans (b5.mono HB.out.size))
        clear b5 t2
        go_wp2_with fail
        go_roundw
        case rel => exact ⟨k + 1, by omega, by go_num, by go_num, HB5.out⟩
        case measure => simp [intOf]; omega
      · obtain rfl : k = n := by omega
        go_wp2_with fail
        go_ret
        exact ⟨rfl, hbel⟩
end Go.Proofs.YtmpeolnnfblbkaaDoor.sf
