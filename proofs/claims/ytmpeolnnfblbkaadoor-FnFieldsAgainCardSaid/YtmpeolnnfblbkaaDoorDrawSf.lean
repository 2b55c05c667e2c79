/- The contract of DrawSplitFields: some text, not long. -/
import Derived.Test.YtmpeolnnfblbkaaDoorDrawText
import Derived.Test.YtmpeolnnfblbkaaDoorFmt
namespace Go.Proofs.YtmpeolnnfblbkaaDoor.draw
open Go.RowKit base fmt
set_option linter.unusedVariables false

theorem cat_ll (a b : List UInt8) : (⟨a.toArray⟩ : ByteArray) ++ ⟨b.toArray⟩ = ⟨(a ++ b).toArray⟩ := by rw [ByteArray.mk_append_mk]
/-- some text of at most m bytes; nothing that was there turned -/
def TextUpto (m : Nat) (w : World) (e : Ending) (w' : World) : Prop := ∃ l : List UInt8, l.length ≤ m ∧ e = .returned (.string ⟨l.toArray⟩) ∧ Below w.heap.size w w'
theorem Cur.long {w0 w w' : World} {g : Nat} (hc : Cur w0 w g) (hb : Below w.heap.size w w') : Cur w0 w' g :=
  hc.grown (r := none) ⟨hb.os, hb.tape, hb.output, hb.size, fun i hi _ => hb.block i hi⟩ (fun k h => by cases h)

theorem pickT (w0 w : World) (g : Nat) (hcur : Cur w0 w g) (b off n c m : Nat) (hn : 1 ≤ n) (hm : n ≤ 1000) (hbg : b ≠ g) (hb : b < w.heap.size) (hcells : ∀ j, j < n → ∃ l : List UInt8, l.length ≤ m ∧ w.cell? ⟨b, off + j, none⟩ = some (.string ⟨l.toArray⟩)) :
    Calls Tryd.prog 33 #[.pointer (some ⟨g, 0, none⟩), .slice (some ⟨b, off, none⟩) n c] w (Ends (fun v => ∃ l : List UInt8, l.length ≤ m ∧ v = .string ⟨l.toArray⟩) w0 w g) := by
  have HC := Lib.hid hcur
  have HX := Lib.hid hcells
  clear hcur hcells
  go_enter Tryd.func33, Tryd.ntmps33
  go_wp2_with fail
  refine (below w0 _ g HC.out n (by omega)).mono ?_
  rintro e w1 ⟨v, rfl, ⟨r, rfl, r0, r1⟩, c1, g1⟩
  obtain ⟨l, hl, hx⟩ := HX.out r.toNat (by omega)
  have hx1 : w1.cell? ⟨b, off + r.toNat, none⟩ = some (.string ⟨l.toArray⟩) := (World.cell?_of_block (g1.block b hb (by simp [hbg]))).trans hx
  have HC1 := Lib.hid c1
  have HG1 := Lib.hid g1
  have HL := Lib.hid hl
  clear c1 g1 hx hl
  have hr : r < (n : Int) := by omega
  go_wp2_with fail
  go_ret
  exact ⟨_, rfl, ⟨_, HL.out, rfl⟩, HC1.out, HG1.out⟩
theorem txt_new (w : World) (L : List (List UInt8)) (m : Nat) (hL : ∀ l ∈ L, l.length ≤ m) (t : TypeId) : ∀ j, j < L.length → ∃ l : List UInt8, l.length ≤ m ∧ (w.alloc (.cells (L.map fun l => Value.string ⟨l.toArray⟩).toArray t)).cell? ⟨w.heap.size, 0 + j, none⟩ = some (.string ⟨l.toArray⟩) := by
  intro j hj
  refine ⟨L[j], hL _ (List.getElem_mem hj), ?_⟩
  rw [World.cell?_alloc_new]
  simp [hj]

theorem one_z (W : World) (z : Int) (h0 : 0 ≤ z) (h1 : z ≤ 255) : (convert 32 9 (.slice (some ⟨W.heap.size, 0, none⟩) 1 1)).run Tryd.prog (W.alloc (.cells #[.int .u8 z] 5)) = .ok (.string ⟨[UInt8.ofNat z.toNat].toArray⟩) (W.alloc (.cells #[.int .u8 z] 5)) := by
  have e : Lib.byteCells [UInt8.ofNat z.toNat] = [.int .u8 z] := by
    simp only [Lib.byteCells, List.map_cons, List.map_nil]
    rw [← byte_cell h0 h1]
  have := World.ownsRow_lit (base := W.heap.size) (e := 5) (size := 1) W #[.int .u8 z] 1 (Nat.le_refl _) (by decide) rfl
  rw [show (#[Value.int .u8 z]).toList = Lib.byteCells [UInt8.ofNat z.toNat] by rw [e]] at this
  exact own_string (P := Tryd.prog) (src := 32) (dst := 9) this Tryd.underlying32 Tryd.underlying5 Tryd.underlying9

set_option maxRecDepth 100000 in
set_option maxHeartbeats 4000000 in
theorem drawSplitFields (w : World) (A : Option Addr) (n c : Nat) (hb : Bytes w A n c) : Calls Tryd.prog 19 #[.slice A n c] w (TextUpto 2000 w) := by
  have HB := Lib.hid hb
  clear hb
  go_enter Tryd.func19, Tryd.ntmps19
  go_wp2_with fail
  refine (new_ w A n c HB.out).mono ?_
  rintro e w1 ⟨rfl, c1⟩
  have HC1 := Lib.hid c1
  clear c1
  go_wp2_with fail
  refine (below w _ _ HC1.out 9 (by omega)).mono ?_
  rintro e w2 ⟨v, rfl, ⟨x, rfl, x0, x1⟩, c2, _⟩
  have HC2 := Lib.hid c2
  clear c2
  go_wp2_with fail
  refine (once w _ _ HC2.out 15 (by omega)).mono ?_
  rintro e w3 ⟨v, rfl, ⟨b, rfl⟩, c3, _⟩
  have HC3 := Lib.hid c3
  clear c3
  cases b with
  | true =>
    go_wp2_with fail
    refine (below w _ _ HC3.out 2 (by omega)).mono ?_
    rintro e w4 ⟨v, rfl, ⟨y, rfl, y0, y1⟩, c4, _⟩
    have HC4 := Lib.hid c4
    clear c4
    go_wp2_with fail
    obtain ⟨N, hN⟩ : ∃ N : Nat, 24 + y = (N : Int) := ⟨(24 + y).toNat, by omega⟩
    have hN2 : N ≤ 25 := by omega
    rw [hN]
    go_loopw [5, 6] (fun sv iv wr => ∃ (i : Nat) (l : List UInt8), iv = .int .i64 i ∧ i ≤ N ∧ sv = .string ⟨l.toArray⟩ ∧ l.length ≤ 10 * i ∧ Cur w wr w.heap.size) (fun _ i _ => N - (intOf i).toNat)
    case atStart => exact ⟨0, [], rfl, Nat.zero_le _, rfl, by simp, HC4.out⟩
    case round =>
      obtain ⟨i, l, rfl, hi, rfl, hl, hc⟩ := hrel
      have HC := Lib.hid hc
      have hll : ¬ 9223372036854775807 < l.length := by omega
      clear hc
      by_cases hlt : i < N
      · have hN25 : i ≤ 24 := by omega
        have key : Hid (∀ (W : World) (l1 : List UInt8) , True) := fun _ _ => trivial
        rcases Nat.eq_zero_or_pos i with rfl | hi0
        · go_wp2_with fail
          refine (once w _ _ HC.out 5 (by omega)).mono ?_
          rintro e w5 ⟨v, rfl, ⟨b5, rfl⟩, c5, _⟩
          have HC5 := Lib.hid c5
          clear c5
          cases b5 with
          | true =>
            go_wp2_with fail
            refine (below w _ _ HC5.out 2 (by omega)).mono ?_
            rintro e w5a ⟨v, rfl, ⟨p, rfl, p0, p1⟩, c5a, _⟩
            have HC5a := Lib.hid c5a
            clear c5a
            go_wp2_with fail
            refine (below w _ _ HC5a.out 3 (by omega)).mono ?_
            rintro e w5b ⟨v, rfl, ⟨q, rfl, q0, q1'⟩, c5b, _⟩
            have HC5b := Lib.hid c5b
            clear c5b
            obtain ⟨Q, hQ⟩ : ∃ Q : Nat, p * q = (Q : Int) ∧ Q ≤ 2 := by
              rcases (by omega : p = 0 ∨ p = 1) with rfl | rfl
              · exact ⟨0, by simp, by omega⟩
              · exact ⟨q.toNat, by rw [Int.one_mul]; omega, by omega⟩
            obtain ⟨hQ, hQ2⟩ := hQ
            go_wp2_with fail
            refine (long_ _ (1 + Q) (by omega) 32 (by omega) (by omega)).mono ?_
            rintro e w6 ⟨l2, hl2, rfl, b6⟩
            have HC6 := Lib.hid (Cur.long HC5b.out b6)
            have hll2 : ¬ 9223372036854775807 < l.length + l2.length := by omega
            clear b6 hQ
            go_wp2_with fail
            go_loopw [5, 7] (fun sv kv wr' => ∃ (k : Nat) (l3 : List UInt8), kv = .int .i64 k ∧ k ≤ 5 ∧ sv = .string ⟨l3.toArray⟩ ∧ l3.length ≤ 10 * 0 + 3 + k ∧ Cur w wr' w.heap.size) (fun _ k _ => 6 - (intOf k).toNat)
            case atStart => exact ⟨0, l ++ l2, rfl, by omega, by rw [← cat_ll], by (rw [List.length_append]; omega), HC6.out⟩
            case round =>
              obtain ⟨k, l3, rfl, hk, rfl, hl3, hc3⟩ := hrel
              have HC7 := Lib.hid hc3
              have hll3 : ¬ 9223372036854775807 < l3.length + 1 := by omega
              clear hc3
              go_wp2_with fail
              refine (below w _ _ HC7.out 5 (by omega)).mono ?_
              rintro e w8 ⟨v, rfl, ⟨d, rfl, d0, d1⟩, c8, _⟩
              have HC8 := Lib.hid c8
              clear c8
              by_cases hkd : (k : Int) ≤ d
              · go_wp2_with fail
                refine (below w _ _ HC8.out 94 (by omega)).mono ?_
                rintro e w9 ⟨v, rfl, ⟨f, rfl, f0, f1⟩, c9, _⟩
                have HC9 := Lib.hid (c9.alloc (.cells #[.int .u8 (33 + f)] 5))
                have q1 := one_z w9 (33 + f) (by omega) (by omega)
                clear c9
                obtain ⟨u, hu⟩ : ∃ u : UInt8, UInt8.ofNat (33 + f).toNat = u := ⟨_, rfl⟩
                rw [hu] at q1
                clear hu
                go_wp2_with fail
                go_roundw
                case rel => exact ⟨k + 1, l3 ++ [u], by go_num, by omega, by rw [← cat_ll], by simp; omega, HC9.out⟩
                case measure => simp [intOf]; omega
              · go_wp2_with fail
                go_roundw
                case rel => exact ⟨0 + 1, l3, by go_num, by omega, rfl, by omega, HC8.out⟩
                case measure => simp [intOf]; omega
          | false =>
            go_wp2_with fail
            go_loopw [5, 7] (fun sv kv wr' => ∃ (k : Nat) (l3 : List UInt8), kv = .int .i64 k ∧ k ≤ 5 ∧ sv = .string ⟨l3.toArray⟩ ∧ l3.length ≤ 10 * 0 + 3 + k ∧ Cur w wr' w.heap.size) (fun _ k _ => 6 - (intOf k).toNat)
            case atStart => exact ⟨0, l, rfl, by omega, rfl, by omega, HC5.out⟩
            case round =>
              obtain ⟨k, l3, rfl, hk, rfl, hl3, hc3⟩ := hrel
              have HC7 := Lib.hid hc3
              have hll3 : ¬ 9223372036854775807 < l3.length + 1 := by omega
              clear hc3
              go_wp2_with fail
              refine (below w _ _ HC7.out 5 (by omega)).mono ?_
              rintro e w8 ⟨v, rfl, ⟨d, rfl, d0, d1⟩, c8, _⟩
              have HC8 := Lib.hid c8
              clear c8
              by_cases hkd : (k : Int) ≤ d
              · go_wp2_with fail
                refine (below w _ _ HC8.out 94 (by omega)).mono ?_
                rintro e w9 ⟨v, rfl, ⟨f, rfl, f0, f1⟩, c9, _⟩
                have HC9 := Lib.hid (c9.alloc (.cells #[.int .u8 (33 + f)] 5))
                have q1 := one_z w9 (33 + f) (by omega) (by omega)
                clear c9
                obtain ⟨u, hu⟩ : ∃ u : UInt8, UInt8.ofNat (33 + f).toNat = u := ⟨_, rfl⟩
                rw [hu] at q1
                clear hu
                go_wp2_with fail
                go_roundw
                case rel => exact ⟨k + 1, l3 ++ [u], by go_num, by omega, by rw [← cat_ll], by simp; omega, HC9.out⟩
                case measure => simp [intOf]; omega
              · go_wp2_with fail
                go_roundw
                case rel => exact ⟨0 + 1, l3, by go_num, by omega, rfl, by omega, HC8.out⟩
                case measure => simp [intOf]; omega
        · have hgt : (i : Int) > 0 := by omega
          go_wp2_with fail
          refine (below w _ _ HC.out 2 (by omega)).mono ?_
          rintro e w5a ⟨v, rfl, ⟨p, rfl, p0, p1⟩, c5a, _⟩
          have HC5a := Lib.hid c5a
          clear c5a
          go_wp2_with fail
          refine (below w _ _ HC5a.out 3 (by omega)).mono ?_
          rintro e w5b ⟨v, rfl, ⟨q, rfl, q0, q1'⟩, c5b, _⟩
          have HC5b := Lib.hid c5b
          clear c5b
          obtain ⟨Q, hQ⟩ : ∃ Q : Nat, p * q = (Q : Int) ∧ Q ≤ 2 := by
            rcases (by omega : p = 0 ∨ p = 1) with rfl | rfl
            · exact ⟨0, by simp, by omega⟩
            · exact ⟨q.toNat, by rw [Int.one_mul]; omega, by omega⟩
          obtain ⟨hQ, hQ2⟩ := hQ
          go_wp2_with fail
          refine (long_ _ (1 + Q) (by omega) 32 (by omega) (by omega)).mono ?_
          rintro e w6 ⟨l2, hl2, rfl, b6⟩
          have HC6 := Lib.hid (Cur.long HC5b.out b6)
          have hll2 : ¬ 9223372036854775807 < l.length + l2.length := by omega
          clear b6 hQ
          go_wp2_with fail
          go_loopw [5, 7] (fun sv kv wr' => ∃ (k : Nat) (l3 : List UInt8), kv = .int .i64 k ∧ k ≤ 5 ∧ sv = .string ⟨l3.toArray⟩ ∧ l3.length ≤ 10 * i + 3 + k ∧ Cur w wr' w.heap.size) (fun _ k _ => 6 - (intOf k).toNat)
          case atStart => exact ⟨0, l ++ l2, rfl, by omega, by rw [← cat_ll], by (rw [List.length_append]; omega), HC6.out⟩
          case round =>
            obtain ⟨k, l3, rfl, hk, rfl, hl3, hc3⟩ := hrel
            have HC7 := Lib.hid hc3
            have hll3 : ¬ 9223372036854775807 < l3.length + 1 := by omega
            clear hc3
            go_wp2_with fail
            refine (below w _ _ HC7.out 5 (by omega)).mono ?_
            rintro e w8 ⟨v, rfl, ⟨d, rfl, d0, d1⟩, c8, _⟩
            have HC8 := Lib.hid c8
            clear c8
            by_cases hkd : (k : Int) ≤ d
            · go_wp2_with fail
              refine (below w _ _ HC8.out 94 (by omega)).mono ?_
              rintro e w9 ⟨v, rfl, ⟨f, rfl, f0, f1⟩, c9, _⟩
              have HC9 := Lib.hid (c9.alloc (.cells #[.int .u8 (33 + f)] 5))
              have q1 := one_z w9 (33 + f) (by omega) (by omega)
              clear c9
              obtain ⟨u, hu⟩ : ∃ u : UInt8, UInt8.ofNat (33 + f).toNat = u := ⟨_, rfl⟩
              rw [hu] at q1
              clear hu
              go_wp2_with fail
              go_roundw
              case rel => exact ⟨k + 1, l3 ++ [u], by go_num, by omega, by rw [← cat_ll], by simp; omega, HC9.out⟩
              case measure => simp [intOf]; omega
            · go_wp2_with fail
              go_roundw
              case rel => exact ⟨i + 1, l3, by go_num, by omega, rfl, by omega, HC8.out⟩
              case measure => simp [intOf]; omega
      · obtain rfl : i = N := by omega
        go_wp2_with fail
        refine (below w _ _ HC.out 12 (by omega)).mono ?_
        rintro e w5 ⟨v, rfl, ⟨z, rfl, z0, z1⟩, c5, _⟩
        have HC5 := Lib.hid c5
        clear c5
        by_cases hz0 : z = 0
        · subst hz0
          go_wp2_with fail
          have hlt5 := HC5.out.lt
          refine (pickT w _ _ (HC5.out.alloc _) w5.heap.size 0 6 6 2 (by omega) (by omega) (by omega) (by simp) (txt_new w5 [[32], [32, 32], [9], [10], [127], [233]] 2 (by simp) _)).mono ?_
          rintro e w6 ⟨v, rfl, ⟨l2, hl2, rfl⟩, c6, _⟩
          have HC6 := Lib.hid c6
          have hll2 : ¬ 9223372036854775807 < l.length + l2.length := by omega
          clear c6 hlt5
          go_wp2_with fail
          go_ret
          exact ⟨l ++ l2, by rw [List.length_append]; omega, by rw [← cat_ll]; rfl, HC6.out.below⟩
        · have hzb : (z == 0) = false := beq_eq_false_iff_ne.2 hz0
          by_cases hz1 : z = 1
          · subst hz1
            by_cases h600 : l.length < 600
            · go_wp2_with fail
              refine (below w _ _ HC5.out 2 (by omega)).mono ?_
              rintro e w6 ⟨v, rfl, ⟨y2, rfl, y20, y21⟩, c6, _⟩
              have HC6 := Lib.hid c6
              clear c6
              obtain ⟨Q, hQ⟩ : ∃ Q : Nat, 600 - (l.length : Int) + y2 = (Q : Int) := ⟨(600 - (l.length : Int) + y2).toNat, by omega⟩
              have hQ2 : Q ≤ 601 := by omega
              go_wp2_with fail
              refine (long_ _ Q (by omega) 32 (by omega) (by omega)).mono ?_
              rintro e w7 ⟨l2, hl2, rfl, b7⟩
              have HC7 := Lib.hid (Cur.long HC6.out b7)
              have hll2 : ¬ 9223372036854775807 < l.length + l2.length := by omega
              clear b7
              go_wp2_with fail
              go_ret
              exact ⟨l ++ l2, by rw [List.length_append]; omega, by rw [← cat_ll]; rfl, HC7.out.below⟩
            · exfalso; omega
          · have hzb1 : (z == 1) = false := beq_eq_false_iff_ne.2 hz1
            go_wp2_with fail
            go_ret
            exact ⟨l, by omega, rfl, HC5.out.below⟩
  | false =>
    go_wp2_with fail
    obtain ⟨N, hN⟩ : ∃ N : Nat, x = (N : Int) := ⟨x.toNat, by omega⟩
    have hN2 : N ≤ 25 := by omega
    rw [hN]
    go_loopw [5, 6] (fun sv iv wr => ∃ (i : Nat) (l : List UInt8), iv = .int .i64 i ∧ i ≤ N ∧ sv = .string ⟨l.toArray⟩ ∧ l.length ≤ 10 * i ∧ Cur w wr w.heap.size) (fun _ i _ => N - (intOf i).toNat)
    case atStart => exact ⟨0, [], rfl, Nat.zero_le _, rfl, by simp, HC3.out⟩
    case round =>
      obtain ⟨i, l, rfl, hi, rfl, hl, hc⟩ := hrel
      have HC := Lib.hid hc
      have hll : ¬ 9223372036854775807 < l.length := by omega
      clear hc
      by_cases hlt : i < N
      · have hN25 : i ≤ 24 := by omega
        have key : Hid (∀ (W : World) (l1 : List UInt8) , True) := fun _ _ => trivial
        rcases Nat.eq_zero_or_pos i with rfl | hi0
        · go_wp2_with fail
          refine (once w _ _ HC.out 5 (by omega)).mono ?_
          rintro e w5 ⟨v, rfl, ⟨b5, rfl⟩, c5, _⟩
          have HC5 := Lib.hid c5
          clear c5
          cases b5 with
          | true =>
            go_wp2_with fail
            refine (below w _ _ HC5.out 2 (by omega)).mono ?_
            rintro e w5a ⟨v, rfl, ⟨p, rfl, p0, p1⟩, c5a, _⟩
            have HC5a := Lib.hid c5a
            clear c5a
            go_wp2_with fail
            refine (below w _ _ HC5a.out 3 (by omega)).mono ?_
            rintro e w5b ⟨v, rfl, ⟨q, rfl, q0, q1'⟩, c5b, _⟩
            have HC5b := Lib.hid c5b
            clear c5b
            obtain ⟨Q, hQ⟩ : ∃ Q : Nat, p * q = (Q : Int) ∧ Q ≤ 2 := by
              rcases (by omega : p = 0 ∨ p = 1) with rfl | rfl
              · exact ⟨0, by simp, by omega⟩
              · exact ⟨q.toNat, by rw [Int.one_mul]; omega, by omega⟩
            obtain ⟨hQ, hQ2⟩ := hQ
            go_wp2_with fail
            refine (long_ _ (1 + Q) (by omega) 32 (by omega) (by omega)).mono ?_
            rintro e w6 ⟨l2, hl2, rfl, b6⟩
            have HC6 := Lib.hid (Cur.long HC5b.out b6)
            have hll2 : ¬ 9223372036854775807 < l.length + l2.length := by omega
            clear b6 hQ
            go_wp2_with fail
            go_loopw [5, 7] (fun sv kv wr' => ∃ (k : Nat) (l3 : List UInt8), kv = .int .i64 k ∧ k ≤ 5 ∧ sv = .string ⟨l3.toArray⟩ ∧ l3.length ≤ 10 * 0 + 3 + k ∧ Cur w wr' w.heap.size) (fun _ k _ => 6 - (intOf k).toNat)
            case atStart => exact ⟨0, l ++ l2, rfl, by omega, by rw [← cat_ll], by (rw [List.length_append]; omega), HC6.out⟩
            case round =>
              obtain ⟨k, l3, rfl, hk, rfl, hl3, hc3⟩ := hrel
              have HC7 := Lib.hid hc3
              have hll3 : ¬ 9223372036854775807 < l3.length + 1 := by omega
              clear hc3
              go_wp2_with fail
              refine (below w _ _ HC7.out 5 (by omega)).mono ?_
              rintro e w8 ⟨v, rfl, ⟨d, rfl, d0, d1⟩, c8, _⟩
              have HC8 := Lib.hid c8
              clear c8
              by_cases hkd : (k : Int) ≤ d
              · go_wp2_with fail
                refine (below w _ _ HC8.out 94 (by omega)).mono ?_
                rintro e w9 ⟨v, rfl, ⟨f, rfl, f0, f1⟩, c9, _⟩
                have HC9 := Lib.hid (c9.alloc (.cells #[.int .u8 (33 + f)] 5))
                have q1 := one_z w9 (33 + f) (by omega) (by omega)
                clear c9
                obtain ⟨u, hu⟩ : ∃ u : UInt8, UInt8.ofNat (33 + f).toNat = u := ⟨_, rfl⟩
                rw [hu] at q1
                clear hu
                go_wp2_with fail
                go_roundw
                case rel => exact ⟨k + 1, l3 ++ [u], by go_num, by omega, by rw [← cat_ll], by simp; omega, HC9.out⟩
                case measure => simp [intOf]; omega
              · go_wp2_with fail
                go_roundw
                case rel => exact ⟨0 + 1, l3, by go_num, by omega, rfl, by omega, HC8.out⟩
                case measure => simp [intOf]; omega
          | false =>
            go_wp2_with fail
            go_loopw [5, 7] (fun sv kv wr' => ∃ (k : Nat) (l3 : List UInt8), kv = .int .i64 k ∧ k ≤ 5 ∧ sv = .string ⟨l3.toArray⟩ ∧ l3.length ≤ 10 * 0 + 3 + k ∧ Cur w wr' w.heap.size) (fun _ k _ => 6 - (intOf k).toNat)
            case atStart => exact ⟨0, l, rfl, by omega, rfl, by omega, HC5.out⟩
            case round =>
              obtain ⟨k, l3, rfl, hk, rfl, hl3, hc3⟩ := hrel
              have HC7 := Lib.hid hc3
              have hll3 : ¬ 9223372036854775807 < l3.length + 1 := by omega
              clear hc3
              go_wp2_with fail
              refine (below w _ _ HC7.out 5 (by omega)).mono ?_
              rintro e w8 ⟨v, rfl, ⟨d, rfl, d0, d1⟩, c8, _⟩
              have HC8 := Lib.hid c8
              clear c8
              by_cases hkd : (k : Int) ≤ d
              · go_wp2_with fail
                refine (below w _ _ HC8.out 94 (by omega)).mono ?_
                rintro e w9 ⟨v, rfl, ⟨f, rfl, f0, f1⟩, c9, _⟩
                have HC9 := Lib.hid (c9.alloc (.cells #[.int .u8 (33 + f)] 5))
                have q1 := one_z w9 (33 + f) (by omega) (by omega)
                clear c9
                obtain ⟨u, hu⟩ : ∃ u : UInt8, UInt8.ofNat (33 + f).toNat = u := ⟨_, rfl⟩
                rw [hu] at q1
                clear hu
                go_wp2_with fail
                go_roundw
                case rel => exact ⟨k + 1, l3 ++ [u], by go_num, by omega, by rw [← cat_ll], by simp; omega, HC9.out⟩
                case measure => simp [intOf]; omega
              · go_wp2_with fail
                go_roundw
                case rel => exact ⟨0 + 1, l3, by go_num, by omega, rfl, by omega, HC8.out⟩
                case measure => simp [intOf]; omega
        · have hgt : (i : Int) > 0 := by omega
          go_wp2_with fail
          refine (below w _ _ HC.out 2 (by omega)).mono ?_
          rintro e w5a ⟨v, rfl, ⟨p, rfl, p0, p1⟩, c5a, _⟩
          have HC5a := Lib.hid c5a
          clear c5a
          go_wp2_with fail
          refine (below w _ _ HC5a.out 3 (by omega)).mono ?_
          rintro e w5b ⟨v, rfl, ⟨q, rfl, q0, q1'⟩, c5b, _⟩
          have HC5b := Lib.hid c5b
          clear c5b
          obtain ⟨Q, hQ⟩ : ∃ Q : Nat, p * q = (Q : Int) ∧ Q ≤ 2 := by
            rcases (by omega : p = 0 ∨ p = 1) with rfl | rfl
            · exact ⟨0, by simp, by omega⟩
            · exact ⟨q.toNat, by rw [Int.one_mul]; omega, by omega⟩
          obtain ⟨hQ, hQ2⟩ := hQ
          go_wp2_with fail
          refine (long_ _ (1 + Q) (by omega) 32 (by omega) (by omega)).mono ?_
          rintro e w6 ⟨l2, hl2, rfl, b6⟩
          have HC6 := Lib.hid (Cur.long HC5b.out b6)
          have hll2 : ¬ 9223372036854775807 < l.length + l2.length := by omega
          clear b6 hQ
          go_wp2_with fail
          go_loopw [5, 7] (fun sv kv wr' => ∃ (k : Nat) (l3 : List UInt8), kv = .int .i64 k ∧ k ≤ 5 ∧ sv = .string ⟨l3.toArray⟩ ∧ l3.length ≤ 10 * i + 3 + k ∧ Cur w wr' w.heap.size) (fun _ k _ => 6 - (intOf k).toNat)
          case atStart => exact ⟨0, l ++ l2, rfl, by omega, by rw [← cat_ll], by (rw [List.length_append]; omega), HC6.out⟩
          case round =>
            obtain ⟨k, l3, rfl, hk, rfl, hl3, hc3⟩ := hrel
            have HC7 := Lib.hid hc3
            have hll3 : ¬ 9223372036854775807 < l3.length + 1 := by omega
            clear hc3
            go_wp2_with fail
            refine (below w _ _ HC7.out 5 (by omega)).mono ?_
            rintro e w8 ⟨v, rfl, ⟨d, rfl, d0, d1⟩, c8, _⟩
            have HC8 := Lib.hid c8
            clear c8
            by_cases hkd : (k : Int) ≤ d
            · go_wp2_with fail
              refine (below w _ _ HC8.out 94 (by omega)).mono ?_
              rintro e w9 ⟨v, rfl, ⟨f, rfl, f0, f1⟩, c9, _⟩
              have HC9 := Lib.hid (c9.alloc (.cells #[.int .u8 (33 + f)] 5))
              have q1 := one_z w9 (33 + f) (by omega) (by omega)
              clear c9
              obtain ⟨u, hu⟩ : ∃ u : UInt8, UInt8.ofNat (33 + f).toNat = u := ⟨_, rfl⟩
              rw [hu] at q1
              clear hu
              go_wp2_with fail
              go_roundw
              case rel => exact ⟨k + 1, l3 ++ [u], by go_num, by omega, by rw [← cat_ll], by simp; omega, HC9.out⟩
              case measure => simp [intOf]; omega
            · go_wp2_with fail
              go_roundw
              case rel => exact ⟨i + 1, l3, by go_num, by omega, rfl, by omega, HC8.out⟩
              case measure => simp [intOf]; omega
      · obtain rfl : i = N := by omega
        go_wp2_with fail
        refine (below w _ _ HC.out 12 (by omega)).mono ?_
        rintro e w5 ⟨v, rfl, ⟨z, rfl, z0, z1⟩, c5, _⟩
        have HC5 := Lib.hid c5
        clear c5
        by_cases hz0 : z = 0
        · subst hz0
          go_wp2_with fail
          have hlt5 := HC5.out.lt
          refine (pickT w _ _ (HC5.out.alloc _) w5.heap.size 0 6 6 2 (by omega) (by omega) (by omega) (by simp) (txt_new w5 [[32], [32, 32], [9], [10], [127], [233]] 2 (by simp) _)).mono ?_
          rintro e w6 ⟨v, rfl, ⟨l2, hl2, rfl⟩, c6, _⟩
          have HC6 := Lib.hid c6
          have hll2 : ¬ 9223372036854775807 < l.length + l2.length := by omega
          clear c6 hlt5
          go_wp2_with fail
          go_ret
          exact ⟨l ++ l2, by rw [List.length_append]; omega, by rw [← cat_ll]; rfl, HC6.out.below⟩
        · have hzb : (z == 0) = false := beq_eq_false_iff_ne.2 hz0
          by_cases hz1 : z = 1
          · subst hz1
            by_cases h600 : l.length < 600
            · go_wp2_with fail
              refine (below w _ _ HC5.out 2 (by omega)).mono ?_
              rintro e w6 ⟨v, rfl, ⟨y2, rfl, y20, y21⟩, c6, _⟩
              have HC6 := Lib.hid c6
              clear c6
              obtain ⟨Q, hQ⟩ : ∃ Q : Nat, 600 - (l.length : Int) + y2 = (Q : Int) := ⟨(600 - (l.length : Int) + y2).toNat, by omega⟩
              have hQ2 : Q ≤ 601 := by omega
              go_wp2_with fail
              refine (long_ _ Q (by omega) 32 (by omega) (by omega)).mono ?_
              rintro e w7 ⟨l2, hl2, rfl, b7⟩
              have HC7 := Lib.hid (Cur.long HC6.out b7)
              have hll2 : ¬ 9223372036854775807 < l.length + l2.length := by omega
              clear b7
              go_wp2_with fail
              go_ret
              exact ⟨l ++ l2, by rw [List.length_append]; omega, by rw [← cat_ll]; rfl, HC7.out.below⟩
            · exfalso; omega
          · have hzb1 : (z == 1) = false := beq_eq_false_iff_ne.2 hz1
            go_wp2_with fail
            go_ret
            exact ⟨l, by omega, rfl, HC5.out.below⟩
end Go.Proofs.YtmpeolnnfblbkaaDoor.draw
