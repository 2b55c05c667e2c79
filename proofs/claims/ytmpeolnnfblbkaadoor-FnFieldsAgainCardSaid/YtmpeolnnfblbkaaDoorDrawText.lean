/- Contracts of l01Text, l01Long and DrawEncodeHex: they give some text. -/
import Derived.Test.YtmpeolnnfblbkaaDoorDraw
import Derived.Test.YtmpeolnnfblbkaaDoorOwnStep
import Derived.OwnWalk
import Derived.LoopTactic
import Derived.RegionTactic
import Derived.IntWalk
namespace Go.Proofs.YtmpeolnnfblbkaaDoor.draw
open Go.RowKit base
set_option linter.unusedVariables false

section
variable {w : World} {W W' : World} {g e size n : Nat} {v : Value} {xs : List Value}
theorem own_ne' (h : W.ownsRow w.heap.size e size v n xs) (hg : g < w.heap.size) : v.ownBlock ≠ some g := fun e => by have := (h.lt g e).1; omega
theorem own_g' (h : W.ownsRow w.heap.size e size v n xs) (hg : g < w.heap.size) (k : W.grownBy W' (some g)) : W'.ownsRow w.heap.size e size v n xs := h.kept k (Or.inr (own_ne' h hg))
end
theorem byte_cell {x : Int} (h0 : 0 ≤ x) (h1 : x ≤ 255) : Value.int .u8 x = .int .u8 (UInt8.ofNat x.toNat).toNat := by
  congr 1
  rw [UInt8.toNat_ofNat', Nat.mod_eq_of_lt (show x.toNat < 256 by omega)]; omega
theorem byte_snoc (l : List UInt8) {x : Int} (h0 : 0 ≤ x) (h1 : x ≤ 255) : Lib.byteCells l ++ [.int .u8 x] = Lib.byteCells (l ++ [UInt8.ofNat x.toNat]) := by
  rw [byte_cell h0 h1]; simp [Lib.byteCells]
/-- a row of the call's own grew -/
theorem cur_row {w0 w W W' : World} {g : Nat} {r : Option Nat} (hc : Cur w0 W g) (k : W.grownBy W' r) (hle : w0.heap.size ≤ w.heap.size) (hg : g < w.heap.size) (hr : ∀ b, r = some b → w.heap.size ≤ b) : Cur w0 W' g :=
  hc.grown k (fun b e => by have := hr b e; omega)
theorem grown_row {w W W' : World} {g : Nat} {r : Option Nat} (h : w.grownBy W (some g)) (k : W.grownBy W' r) (hr : ∀ b, r = some b → w.heap.size ≤ b) : w.grownBy W' (some g) :=
  ⟨k.os.trans h.os, k.tape.trans h.tape, k.output.trans h.output, Nat.le_trans h.size k.size, fun i hi hn => (k.block i (Nat.lt_of_lt_of_le hi h.size) (fun e => by have := hr i e.symm; omega)).trans (h.block i hi hn)⟩

/-- a text of n bytes, the cursor good, nothing else turned -/
def TextE (n : Nat) (w0 w : World) (g : Nat) (e : Ending) (w' : World) : Prop := ∃ l : List UInt8, l.length = n ∧ e = .returned (.string ⟨l.toArray⟩) ∧ Cur w0 w' g ∧ w.grownBy w' (some g)

set_option maxHeartbeats 1000000 in
theorem text_ (w0 w : World) (g : Nat) (hcur : Cur w0 w g) (n : Nat) (hn : n ≤ 5000) : Calls Tryd.prog 35 #[.pointer (some ⟨g, 0, none⟩), .int .i64 n] w (TextE n w0 w g) := by
  obtain ⟨i0, hi, hz0, hz1, hz2⟩ := info_parts (P := Tryd.prog) (e := 5) (z := .int .u8 0) (size := 1) (bytes := 1) (by kernel_rfl)
  have OW0 := Lib.hid (World.ownsRow_lit (base := w.heap.size) (e := 5) (size := 1) w #[] 0 (Nat.le_refl _) (by omega) rfl)
  have hle := hcur.below.size
  have hglt := hcur.lt
  have HC := Lib.hid hcur
  clear hcur
  go_enter Tryd.func35, Tryd.ntmps35
  go_wp2_with fail
  go_loopw [5, 6] (fun v i wr => ∃ l : List UInt8, l.length ≤ n ∧ i = .int .i64 l.length ∧ wr.ownsRow w.heap.size 5 1 v l.length (Lib.byteCells l) ∧ Cur w0 wr g ∧ w.grownBy wr (some g)) (fun _ i _ => n - (intOf i).toNat)
  case atStart => exact ⟨[], Nat.zero_le _, rfl, by simpa [Lib.byteCells] using OW0.out, HC.out.alloc _, grown_alloc (grown_refl w (some g)) _⟩
  case round =>
    obtain ⟨l, hk, rfl, hown, hcur, hgr⟩ := hrel
    have HO := Lib.hid hown
    have HC := Lib.hid hcur
    have HG := Lib.hid hgr
    clear hown hcur hgr
    by_cases hlt : l.length < n
    · go_wp2_with fail
      refine (byte w0 _ g HC.out).mono ?_
      rintro e w1 ⟨_, rfl, ⟨x, rfl, x0, x1⟩, c1, g1⟩
      have HC1 := Lib.hid (c1.alloc (.cells #[.int .u8 x] 5))
      have HG1 := Lib.hid (grown_alloc (grown_trans HG.out g1) (.cells #[.int .u8 x] 5))
      have OWA := Lib.hid ((own_g' HO.out hglt g1).alloc (.cells #[.int .u8 x] 5))
      clear c1 g1
      go_wp2_with (at_builtin; refine wpList_append_own _ rfl _ _ 32 rfl w.heap.size 5 i0 (.int .u8 0) 1 1 Tryd.underlying32 hi hz0 hz1 hz2 rfl (by decide) _ _ _ rfl OWA.out ⟨_, 0, none⟩ 1 1 [.int .u8 x] rfl rfl (news1 _ _ _ (by simp)) (by simp [Value.oneCell']) (by unfold maxLen; omega) (by omega) (HG1.out.size) ?_; intro v8 w8 own8 gr8 _)
      have OW8 := Lib.hid own8
      have HC8 := Lib.hid (cur_row HC1.out gr8 hle hglt (fun b e => (OWA.out.lt b e).1))
      have HG8 := Lib.hid (grown_row HG1.out gr8 (fun b e => (OWA.out.lt b e).1))
      clear own8 gr8
      rw [byte_snoc l x0 x1] at OW8
      go_wp2_with fail
      go_roundw
      case rel => exact ⟨l ++ [UInt8.ofNat x.toNat], by simp; omega, by simp, by simpa using OW8.out, HC8.out, HG8.out⟩
      case measure => simp [intOf]; omega
    · obtain rfl : l.length = n := by omega
      have hcv := own_string (P := Tryd.prog) (src := 32) (dst := 9) HO.out Tryd.underlying32 Tryd.underlying5 Tryd.underlying9
      go_wp2_with fail
      go_ret
      exact ⟨l, rfl, rfl, HC.out, HG.out⟩

/-- n bytes of one kind -/
def LongE (n : Nat) (w : World) (e : Ending) (w' : World) : Prop := ∃ l : List UInt8, l.length = n ∧ e = .returned (.string ⟨l.toArray⟩) ∧ Below w.heap.size w w'

set_option maxHeartbeats 1000000 in
theorem long_ (w : World) (n : Nat) (hn : n ≤ 30000) (x : Int) (x0 : 0 ≤ x) (x1 : x ≤ 255) : Calls Tryd.prog 32 #[.int .i64 n, .int .u8 x] w (LongE n w) := by
  obtain ⟨i0, hi, hz0, hz1, hz2⟩ := info_parts (P := Tryd.prog) (e := 5) (z := .int .u8 0) (size := 1) (bytes := 1) (by kernel_rfl)
  go_enter Tryd.func32, Tryd.ntmps32
  go_wp2_with (refine wpList_make_full _ rfl _ _ 32 rfl w.heap.size 5 i0 (.int .u8 0) 1 Tryd.underlying32 hi hz0 hz1 .i64 .i64 _ _ n rfl rfl rfl rfl (by rw [hz2]; omega) (by unfold maxLen; omega) (Nat.le_refl _) ?_; intro w1 own1 gr1)
  have OW1 : Hid (w1.ownsRow w.heap.size 5 1 (.slice (some ⟨w.heap.size, 0, none⟩) n n) n (Lib.byteCells (List.replicate n 0))) := by
    show World.ownsRow _ _ _ _ _ _ _
    have e : (madeCells (Value.int .u8 0).cells (n * 1)).toList = Lib.byteCells (List.replicate n 0) := by
      show (madeCells #[Value.int .u8 0] (n * 1)).toList = _
      rw [toList_madeCells_one, Nat.mul_one]; simp [Lib.byteCells]
    rw [← e]; exact own1
  have HB1 : Hid (Below w.heap.size w w1) := ⟨gr1.os, gr1.tape, gr1.output, gr1.size, fun i hi => gr1.block i hi (by simp)⟩
  clear own1 gr1
  go_loopw [6] (fun i wr => ∃ (k : Nat) (l : List UInt8), k ≤ n ∧ i = .int .i64 k ∧ l.length = n ∧ wr.ownsRow w.heap.size 5 1 (.slice (some ⟨w.heap.size, 0, none⟩) n n) n (Lib.byteCells l) ∧ Below w.heap.size w wr) (fun i _ => n - (intOf i).toNat)
  case atStart => exact ⟨0, _, Nat.zero_le _, rfl, by simp, OW1.out, HB1.out⟩
  case round =>
    obtain ⟨k, l, hk, rfl, hl, hown, hbel⟩ := hrel
    have HO := Lib.hid hown
    have HB := Lib.hid hbel
    have HL := Lib.hid hl
    by_cases hlt : k < n
    · have t1 : wr.cell? ⟨w.heap.size, k, none⟩ = some (.int .u8 (l.getD k 0).toNat) := by
        rw [hown.cellAt k (by omega)]
        simp [Lib.byteCells, List.getD, hl, hlt]
      have f1 : wr.frozen? ⟨w.heap.size, k, none⟩ = false := hown.frozenAt k
      have t2 := hown.stored k (.int .u8 x)
      have e2 : (Lib.byteCells l).set k (.int .u8 x) = Lib.byteCells (l.set k (UInt8.ofNat x.toNat)) := by
        rw [byte_cell x0 x1]; simp [Lib.byteCells, List.map_set]
      rw [e2] at t2
      have OW2 := Lib.hid t2.1
      have HB2 := Lib.hid (hbel.setCell (p := ⟨w.heap.size, k, none⟩) (Nat.le_refl _) (.int .u8 x))
      clear hown hbel t2 e2 hl
      go_wp2_with fail
      go_roundw
      case rel => exact ⟨k + 1, _, by omega, by go_num, by rw [List.length_set]; exact HL.out, OW2.out, HB2.out⟩
      case measure => simp [intOf]; omega
    · have hcv := own_string (P := Tryd.prog) (src := 32) (dst := 9) hown Tryd.underlying32 Tryd.underlying5 Tryd.underlying9
      obtain rfl : k = n := by omega
      clear hown hbel hl
      go_wp2_with fail
      go_ret
      exact ⟨l, HL.out, rfl, HB.out⟩

/-- some text, not longer than 20001 bytes; nothing that was there turned -/
def SomeText (w : World) (e : Ending) (w' : World) : Prop := ∃ l : List UInt8, l.length ≤ 20001 ∧ e = .returned (.string ⟨l.toArray⟩) ∧ Below w.heap.size w w'

set_option maxHeartbeats 400000 in
theorem drawEncodeHex (w : World) (A : Option Addr) (n c : Nat) (hb : Bytes w A n c) : Calls Tryd.prog 22 #[.slice A n c] w (SomeText w) := by
  have HB := Lib.hid hb
  clear hb
  go_enter Tryd.func22, Tryd.ntmps22
  go_wp2_with fail
  refine (new_ w A n c HB.out).mono ?_
  rintro e w1 ⟨rfl, c1⟩
  have HC1 := Lib.hid c1
  clear c1
  go_wp2_with fail
  refine (once w _ _ HC1.out 60 (by omega)).mono ?_
  rintro e w2 ⟨v, rfl, ⟨b, rfl⟩, c2, _⟩
  have HC2 := Lib.hid c2
  clear c2
  cases b with
  | true =>
    go_wp2_with fail
    refine (below w _ _ HC2.out 2 (by omega)).mono ?_
    rintro e w3 ⟨v, rfl, ⟨x, rfl, x0, x1⟩, c3, _⟩
    have HB3 := Lib.hid c3.below
    clear c3
    obtain ⟨N, rfl⟩ : ∃ N : Nat, x = N := ⟨x.toNat, by omega⟩
    go_wp2_with fail
    refine (long_ _ (20000 + N) (by omega) 200 (by omega) (by omega)).mono ?_
    rintro e w4 ⟨l, hl, rfl, b4⟩
    have HB4 := Lib.hid (HB3.out.trans (b4.mono HB3.out.size))
    have HL := Lib.hid hl
    clear b4 hl
    go_wp2_with fail
    go_ret
    exact ⟨l, by have := HL.out; omega, rfl, HB4.out⟩
  | false =>
    go_wp2_with fail
    refine (below w _ _ HC2.out 30 (by omega)).mono ?_
    rintro e w3 ⟨v, rfl, ⟨x, rfl, x0, x1⟩, c3, _⟩
    have HC3 := Lib.hid c3
    clear c3
    obtain ⟨N, rfl⟩ : ∃ N : Nat, x = N := ⟨x.toNat, by omega⟩
    go_wp2_with fail
    refine (text_ w _ _ HC3.out N (by omega)).mono ?_
    rintro e w4 ⟨l, hl, rfl, c4, _⟩
    have HB4 := Lib.hid c4.below
    have HL := Lib.hid hl
    clear c4 hl
    go_wp2_with fail
    go_ret
    exact ⟨l, by have := HL.out; omega, rfl, HB4.out⟩
end Go.Proofs.YtmpeolnnfblbkaaDoor.draw
