/- Contracts of the draws: a cursor over the law's bytes; each draw gives a number within its bounds, and turns nothing but the cursor's own block. -/
import Derived.Test.YtmpeolnnfblbkaaDoorBase
import Derived.Deep.QuietTactic
import Derived.BigQuiet
import Derived.Deep.Draws
import Derived.Laws.OwnMore
import Derived.Laws.AppendOwn
import Derived.Laws.Rows
import Derived.OpenShut
namespace Go.Proofs.YtmpeolnnfblbkaaDoor.draw
open Go.RowKit base
set_option linter.unusedVariables false

/-- the law's bytes, as they came in -/
def Bytes (w : World) (A : Option Addr) (n c : Nat) : Prop :=
  n ≤ c ∧ c ≤ 9223372036854775807 ∧ (0 < n → ∃ b off, A = some ⟨b, off, none⟩ ∧ b < w.heap.size ∧ ∀ j, j < n → ∃ x : Int, w.cell? ⟨b, off + j, none⟩ = some (.int .u8 x) ∧ 0 ≤ x ∧ x ≤ 255)

theorem Bytes.below {w w' : World} {A : Option Addr} {n c : Nat} (h : Bytes w A n c) (hb : Below w.heap.size w w') : Bytes w' A n c := by
  obtain ⟨h1, h2, h3⟩ := h
  refine ⟨h1, h2, fun hn => ?_⟩
  obtain ⟨b, off, e, hlt, hc⟩ := h3 hn
  refine ⟨b, off, e, Nat.lt_of_lt_of_le hlt hb.size, fun j hj => ?_⟩
  obtain ⟨x, hx, h4, h5⟩ := hc j hj
  exact ⟨x, (hb.cell (p := ⟨b, off + j, none⟩) hlt).trans hx, h4, h5⟩

/-- the cursor's block -/
structure Cur (w0 w : World) (g : Nat) : Prop where
  ex : ∃ (A : Option Addr) (n c : Nat) (i h : Int), w.heap[g]? = some (.cells #[.slice A n c, .int .i64 i, .int .i64 h] 59 (0, 0)) ∧ Bytes w0 A n c ∧ 0 ≤ i
  ge : w0.heap.size ≤ g
  below : Below w0.heap.size w0 w

theorem grown_refl (w : World) (r : Option Nat) : w.grownBy w r := ⟨rfl, rfl, rfl, Nat.le_refl _, fun _ _ _ => rfl⟩
theorem grown_trans {a b c : World} {r : Option Nat} (h : a.grownBy b r) (k : b.grownBy c r) : a.grownBy c r :=
  ⟨k.os.trans h.os, k.tape.trans h.tape, k.output.trans h.output, Nat.le_trans h.size k.size, fun i hi hn => (k.block i (Nat.lt_of_lt_of_le hi h.size) hn).trans (h.block i hi hn)⟩
theorem grown_drewN {a w : World} {row : Option Nat} (h : a.grownBy w row) (n : Nat) : a.grownBy (w.drewN n) row := ⟨h.os, h.tape, h.output, h.size, h.block⟩
theorem grown_drew {a w : World} {row : Option Nat} (h : a.grownBy w row) : a.grownBy w.drew row := ⟨h.os, h.tape, h.output, h.size, h.block⟩
theorem grown_alloc {a w : World} {row : Option Nat} (h : a.grownBy w row) (o : Obj) : a.grownBy (w.alloc o) row :=
  ⟨h.os, h.tape, h.output, Nat.le_trans h.size (by simp), fun i hi hne => (Below.heap_alloc w o i (Nat.lt_of_lt_of_le hi h.size)).trans (h.block i hi hne)⟩
theorem grown_set {a w : World} {g : Nat} (h : a.grownBy w (some g)) {p : Addr} (hp : p.block = g ∨ a.heap.size ≤ p.block) (u : Value) : a.grownBy (w.setCell p u) (some g) :=
  ⟨h.os, h.tape, h.output, by simpa [World.setCell] using h.size, fun i hi hne => (Below.heap_setCell w p u i (by
    rintro rfl
    rcases hp with hp | hp
    · exact hne (by rw [hp])
    · omega)).trans (h.block i hi hne)⟩
theorem grown_of_below {a w : World} (h : Below a.heap.size a w) (row : Option Nat) : a.grownBy w row := ⟨h.os, h.tape, h.output, h.size, fun i hi _ => h.block i hi⟩
theorem below_of_grown {w0 w w' : World} {g : Nat} (h : Below w0.heap.size w0 w) (hg : w.grownBy w' (some g)) (hge : w0.heap.size ≤ g) : Below w0.heap.size w0 w' :=
  ⟨hg.os.trans h.os, hg.tape.trans h.tape, hg.output.trans h.output, Nat.le_trans h.size hg.size, fun i hi => (hg.block i (Nat.lt_of_lt_of_le hi h.size) (by simp; omega)).trans (h.block i hi)⟩

/-- how a draw ends: a value as told, the cursor good, nothing else turned -/
def Ends (V : Value → Prop) (w0 w : World) (g : Nat) (e : Ending) (w' : World) : Prop := ∃ v, e = .returned v ∧ V v ∧ Cur w0 w' g ∧ w.grownBy w' (some g)
/-- a number from a to b -/
def Int_ (a b : Int) (v : Value) : Prop := ∃ x : Int, v = .int .i64 x ∧ a ≤ x ∧ x ≤ b

theorem and_mask (x : Int) (m : Nat) (hm : m < 9223372036854775808) : 0 ≤ Go.bits .and .i64 x (m : Int) ∧ Go.bits .and .i64 x (m : Int) ≤ m := by
  have h : Go.bits .and .i64 x (m : Int) = IntKind.i64.wrap ((BitVec.ofInt 64 x &&& BitVec.ofInt 64 (m : Int)).toNat : Int) := rfl
  have e : (BitVec.ofInt 64 (m : Int)).toNat = m := by
    rw [BitVec.ofInt_natCast, BitVec.toNat_ofNat]; exact Nat.mod_eq_of_lt (by omega)
  have hle : (BitVec.ofInt 64 x &&& BitVec.ofInt 64 (m : Int)).toNat ≤ m := by
    rw [BitVec.toNat_and, e]; exact Nat.and_le_right
  rw [h, IntKind.wrap_i64]
  omega

theorem Cur.set2 {w0 w : World} {g : Nat} (hc : Cur w0 w g) (x : Int) : Cur w0 (w.setCell ⟨g, 2, none⟩ (.int .i64 x)) g := by
  obtain ⟨⟨A, n, c, i, h, hblk, hbytes, hi⟩, hge, hbel⟩ := hc
  refine ⟨⟨A, n, c, i, x, ?_, hbytes, hi⟩, hge, hbel.setCell hge _⟩
  simp [World.setCell, Array.getElem?_modify, hblk]
theorem Cur.set1 {w0 w : World} {g : Nat} (hc : Cur w0 w g) {x : Int} (hx : 0 ≤ x) : Cur w0 (w.setCell ⟨g, 1, none⟩ (.int .i64 x)) g := by
  obtain ⟨⟨A, n, c, i, h, hblk, hbytes, hi⟩, hge, hbel⟩ := hc
  refine ⟨⟨A, n, c, x, h, ?_, hbytes, hx⟩, hge, hbel.setCell hge _⟩
  simp [World.setCell, Array.getElem?_modify, hblk]
theorem Cur.drewN {w0 w : World} {g : Nat} (hc : Cur w0 w g) (n : Nat) : Cur w0 (w.drewN n) g := ⟨hc.ex, hc.ge, ⟨hc.below.os, hc.below.tape, hc.below.output, hc.below.size, hc.below.block⟩⟩
theorem Cur.drew {w0 w : World} {g : Nat} (hc : Cur w0 w g) : Cur w0 w.drew g := hc.drewN 1
theorem Cur.lt {w0 w : World} {g : Nat} (hc : Cur w0 w g) : g < w.heap.size := by
  obtain ⟨⟨A, n, c, i, h, hblk, _, _⟩, _, _⟩ := hc
  rcases Nat.lt_or_ge g w.heap.size with hlt | hge
  · exact hlt
  · rw [Array.getElem?_eq_none hge] at hblk; cases hblk
theorem Cur.grown {w0 w w' : World} {g : Nat} (hc : Cur w0 w g) {r : Option Nat} (hg : w.grownBy w' r) (hr : ∀ k, r = some k → w0.heap.size ≤ k ∧ k ≠ g) : Cur w0 w' g := by
  have hlt := hc.lt
  obtain ⟨⟨A, n, c, i, h, hblk, hbytes, hi⟩, hge, hbel⟩ := hc
  refine ⟨⟨A, n, c, i, h, (hg.block g hlt ?_).trans hblk, hbytes, hi⟩, hge, ⟨hg.os.trans hbel.os, hg.tape.trans hbel.tape, hg.output.trans hbel.output, Nat.le_trans hbel.size hg.size, fun j hj => (hg.block j (Nat.lt_of_lt_of_le hj hbel.size) ?_).trans (hbel.block j hj)⟩⟩
  · intro e; exact (hr g e.symm).2 rfl
  · intro e; have := (hr j e.symm).1; omega
theorem Cur.alloc {w0 w : World} {g : Nat} (hc : Cur w0 w g) (o : Obj) : Cur w0 (w.alloc o) g := hc.grown (r := none) (grown_alloc (grown_refl w none) o) (fun k h => by cases h)

theorem byte (w0 w : World) (g : Nat) (hcur : Cur w0 w g) : Calls Tryd.prog 41 #[.pointer (some ⟨g, 0, none⟩)] w (Ends (Int_ 0 255) w0 w g) := by
  have HC := Lib.hid hcur
  obtain ⟨⟨A, n, c, i, h, hblk, hbytes, hi⟩, hge, hbel⟩ := hcur
  have c0 : w.cell? ⟨g, 0, none⟩ = some (.slice A n c) := cell_of_row w g 0 _ _ _ hblk
  have c1 : w.cell? ⟨g, 1, none⟩ = some (.int .i64 i) := cell_of_row w g 1 _ _ _ hblk
  have c2 : w.cell? ⟨g, 2, none⟩ = some (.int .i64 h) := cell_of_row w g 2 _ _ _ hblk
  have f0 : ∀ j, w.frozen? ⟨g, j, none⟩ = false := fun j => by simp [World.frozen?, hblk]
  obtain ⟨hnc, hcm, hcells⟩ := hbytes
  have HB := Lib.hid hblk
  have HBel := Lib.hid hbel
  clear hblk hbel
  by_cases hlt : i < (n : Int)
  · obtain ⟨b, off, rfl, hb, hc⟩ := hcells (by omega)
    obtain ⟨x, hx, x0, x1⟩ := hc i.toNat (by omega)
    have hx' : w.cell? ⟨b, off + i.toNat, none⟩ = some (.int .u8 x) := (HBel.out.cell (p := ⟨b, off + i.toNat, none⟩) hb).trans hx
    clear hcells hc hx
    have n1 : g ≠ b := by omega
    have n2 : b ≠ g := by omega
    go_enter Tryd.func41, Tryd.ntmps41
    go_wp2
    go_quiet (fail)
    go_wp2
    go_quiet (fail)
    go_wp2
    go_quiet (fail)
    go_wp2
    go_ret
    refine ⟨_, rfl, ⟨_, rfl, (and_mask _ 255 (by omega)).1, (and_mask _ 255 (by omega)).2⟩, ?_, ?_⟩
    · repeat (first | exact HC.out | apply Cur.drewN | apply Cur.drew | apply Cur.set2 | apply Cur.set1)
      all_goals omega
    · repeat (first | exact grown_refl _ _ | apply grown_drewN | apply grown_drew | apply grown_set)
      all_goals simp
  · have hd : decide (i < (n : Int)) = false := by simpa using hlt
    go_enter Tryd.func41, Tryd.ntmps41
    go_wp2
    go_quiet (fail)
    go_wp2
    go_quiet (fail)
    go_wp2
    go_ret
    refine ⟨_, rfl, ⟨_, rfl, (and_mask _ 255 (by omega)).1, (and_mask _ 255 (by omega)).2⟩, ?_, ?_⟩
    · repeat (first | exact HC.out | apply Cur.drewN | apply Cur.drew | apply Cur.set2 | apply Cur.set1)
      all_goals omega
    · repeat (first | exact grown_refl _ _ | apply grown_drewN | apply grown_drew | apply grown_set)
      all_goals simp

theorem Ends.mono {V V' : Value → Prop} {w0 w : World} {g : Nat} {e : Ending} {w' : World} (h : Ends V w0 w g e w') (hv : ∀ v, V v → V' v) : Ends V' w0 w g e w' := by
  obtain ⟨v, e1, h1, h2, h3⟩ := h
  exact ⟨v, e1, hv v h1, h2, h3⟩

theorem below0 (w0 w : World) (g : Nat) (hcur : Cur w0 w g) (n : Int) (hn : n ≤ 0) : Calls Tryd.prog 30 #[.pointer (some ⟨g, 0, none⟩), .int .i64 n] w (Ends (Int_ 0 0) w0 w g) := by
  have HC := Lib.hid hcur
  clear hcur
  go_enter Tryd.func30, Tryd.ntmps30
  go_wp2_with fail
  go_ret
  exact ⟨_, rfl, ⟨_, rfl, by omega, by omega⟩, HC.out, grown_refl _ _⟩

set_option maxHeartbeats 400000 in
theorem below (w0 w : World) (g : Nat) (hcur : Cur w0 w g) (n : Int) (hn : 1 ≤ n) : Calls Tryd.prog 30 #[.pointer (some ⟨g, 0, none⟩), .int .i64 n] w (Ends (Int_ 0 (n - 1)) w0 w g) := by
  have HC := Lib.hid hcur
  clear hcur
  by_cases h1 : n ≤ 256
  · go_enter Tryd.func30, Tryd.ntmps30
    go_wp2_with fail
    refine (byte w0 _ g HC.out).mono ?_
    rintro e w1 ⟨v, rfl, ⟨r, rfl, r0, r1⟩, c1, g1⟩
    have HC1 := Lib.hid c1
    have HG1 := Lib.hid g1
    clear c1 g1
    go_wp2_with fail
    go_ret
    refine ⟨_, rfl, ⟨_, rfl, ?_, ?_⟩, HC1.out, HG1.out⟩
    · exact Int.emod_nonneg _ (by omega)
    · have := Int.emod_lt_of_pos r (show 0 < n by omega); omega
  · go_enter Tryd.func30, Tryd.ntmps30
    go_wp2_with fail
    refine (byte w0 _ g HC.out).mono ?_
    rintro e w1 ⟨v, rfl, ⟨r, rfl, r0, r1⟩, c1, g1⟩
    have HC1 := Lib.hid c1
    have HG1 := Lib.hid g1
    clear c1 g1
    go_wp2_with fail
    refine (byte w0 _ g HC1.out).mono ?_
    rintro e w2 ⟨v, rfl, ⟨s, rfl, s0, s1⟩, c2, g2⟩
    have HC2 := Lib.hid c2
    have HG2 := Lib.hid (grown_trans HG1.out g2)
    clear c2 g2
    go_wp2_with fail
    refine (byte w0 _ g HC2.out).mono ?_
    rintro e w3 ⟨v, rfl, ⟨t, rfl, t0, t1⟩, c3, g3⟩
    have HC3 := Lib.hid c3
    have HG3 := Lib.hid (grown_trans HG2.out g3)
    clear c3 g3
    go_wp2_with fail
    refine (byte w0 _ g HC3.out).mono ?_
    rintro e w4 ⟨v, rfl, ⟨u, rfl, u0, u1⟩, c4, g4⟩
    have HC4 := Lib.hid c4
    have HG4 := Lib.hid (grown_trans HG3.out g4)
    clear c4 g4
    go_wp2_with fail
    go_ret
    refine ⟨_, rfl, ⟨_, rfl, ?_, ?_⟩, HC4.out, HG4.out⟩
    · exact Int.emod_nonneg _ (by omega)
    · have := Int.emod_lt_of_pos (r * 16777216 + s * 65536 + t * 256 + u) (show 0 < n by omega); omega

theorem once (w0 w : World) (g : Nat) (hcur : Cur w0 w g) (n : Int) (hn : 1 ≤ n) : Calls Tryd.prog 31 #[.pointer (some ⟨g, 0, none⟩), .int .i64 n] w (Ends (fun v => ∃ b, v = .bool b) w0 w g) := by
  have HC := Lib.hid hcur
  clear hcur
  go_enter Tryd.func31, Tryd.ntmps31
  go_wp2_with fail
  refine (below w0 _ g HC.out n hn).mono ?_
  rintro e w1 ⟨v, rfl, ⟨r, rfl, r0, r1⟩, c1, g1⟩
  have HC1 := Lib.hid c1
  have HG1 := Lib.hid g1
  clear c1 g1
  go_wp2_with fail
  go_ret
  exact ⟨_, rfl, ⟨_, rfl⟩, HC1.out, HG1.out⟩

theorem pickInt (w0 w : World) (g : Nat) (hcur : Cur w0 w g) (b off n c : Nat) (V : Int → Prop) (hn : 1 ≤ n) (hm : n ≤ 1000) (hbg : b ≠ g) (hb : b < w.heap.size) (hcells : ∀ j, j < n → ∃ x : Int, w.cell? ⟨b, off + j, none⟩ = some (.int .i64 x) ∧ V x) :
    Calls Tryd.prog 42 #[.pointer (some ⟨g, 0, none⟩), .slice (some ⟨b, off, none⟩) n c] w (Ends (fun v => ∃ x : Int, v = .int .i64 x ∧ V x) w0 w g) := by
  have HC := Lib.hid hcur
  have HX := Lib.hid hcells
  clear hcur hcells
  go_enter Tryd.func42, Tryd.ntmps42
  go_wp2_with fail
  refine (below w0 _ g HC.out n (by omega)).mono ?_
  rintro e w1 ⟨v, rfl, ⟨r, rfl, r0, r1⟩, c1, g1⟩
  obtain ⟨x, hx, hv⟩ := HX.out r.toNat (by omega)
  have hx1 : w1.cell? ⟨b, off + r.toNat, none⟩ = some (.int .i64 x) := (World.cell?_of_block (g1.block b hb (by simp [hbg]))).trans hx
  have HC1 := Lib.hid c1
  have HG1 := Lib.hid g1
  have HV := Lib.hid hv
  clear c1 g1 hx hv
  have hr : r < (n : Int) := by omega
  go_wp2_with fail
  go_ret
  exact ⟨_, rfl, ⟨_, rfl, HV.out⟩, HC1.out, HG1.out⟩

set_option maxRecDepth 100000 in
/-- the cursor, made of the bytes of the law -/
theorem new_ (w : World) (A : Option Addr) (n c : Nat) (hb : Bytes w A n c) : Calls Tryd.prog 29 #[.slice A n c] w fun e w' => e = .returned (.pointer (some ⟨w.heap.size, 0, none⟩)) ∧ Cur w w' w.heap.size := by
  have HB := Lib.hid hb
  obtain ⟨hnc, hcm, hcells⟩ := hb
  have HX := Lib.hid hcells
  clear hcells
  go_enter Tryd.func29, Tryd.ntmps29
  go_wp2
  go_loop [3, 4] (fun h i => ∃ (k : Nat) (x : Int), k ≤ n ∧ k ≤ 4000 ∧ i = .int .i64 k ∧ h = .int .i64 x) (fun _ i => 4000 - (intOf i).toNat)
  case atStart => exact ⟨0, _, Nat.zero_le _, by omega, rfl, rfl⟩
  case round =>
    obtain ⟨k, x, hk, hk2, rfl, rfl⟩ := hrel
    by_cases h1 : k < n
    · by_cases h2 : k < 4000
      · obtain ⟨b, off, rfl, hlt, hc⟩ := HX.out (by omega)
        obtain ⟨y, hy, y0, y1⟩ := hc k h1
        clear hc
        go_wp2
        go_round
        case rel => exact ⟨k + 1, _, by omega, by omega, by go_num, rfl⟩
        case measure => simp [intOf]; omega
      · go_wp2
        go_ret
        refine ⟨rfl, ⟨⟨A, n, c, 0, x, ?_, HB.out, by omega⟩, Nat.le_refl _, (Below.refl _ _).alloc (Nat.le_refl _) _⟩⟩
        simpa using heap_alloc_new w _
    · go_wp2
      go_ret
      refine ⟨rfl, ⟨⟨A, n, c, 0, x, ?_, HB.out, by omega⟩, Nat.le_refl _, (Below.refl _ _).alloc (Nat.le_refl _) _⟩⟩
      simpa using heap_alloc_new w _
end Go.Proofs.YtmpeolnnfblbkaaDoor.draw
