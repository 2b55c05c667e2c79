/- Contracts of l01Number and DrawClamp: they give whole numbers. -/
import Derived.Test.YtoejigbeegkfoaaDraw
namespace Go.Proofs.Ytoejigbeegkfoaa.draw
open Go.RowKit base
set_option linter.unusedVariables false

theorem cells_new (w : World) (l : List Int) (t : TypeId) : ∀ j, j < l.length → ∃ x : Int, (w.alloc (.cells (l.map (Value.int .i64)).toArray t)).cell? ⟨w.heap.size, 0 + j, none⟩ = some (.int .i64 x) ∧ x ∈ l := by
  intro j hj
  refine ⟨l[j], ?_, List.getElem_mem hj⟩
  rw [World.cell?_alloc_new]
  simp [hj]

set_option maxRecDepth 100000 in
theorem number (w0 w : World) (g : Nat) (hcur : Cur w0 w g) : Calls Try.prog 34 #[.pointer (some ⟨g, 0, none⟩)] w (Ends (fun v => ∃ x : Int, v = .int .i64 x) w0 w g) := by
  have HC := Lib.hid hcur
  clear hcur
  go_enter Try.func34, Try.ntmps34
  go_wp2_with fail
  refine (below w0 _ g HC.out 4 (by omega)).mono ?_
  rintro e w1 ⟨v, rfl, ⟨r, rfl, r0, r1⟩, c1, g1⟩
  have HC1 := Lib.hid c1
  have HG1 := Lib.hid g1
  clear c1 g1
  by_cases h0 : r = 0
  · have HR : (r == 0) = true := by simp [h0]
    have HH := Lib.hid h0
    clear h0
    go_wp2_with fail
    have hlt := HC1.out.lt
    refine (pickInt w0 _ g (HC1.out.alloc _) w1.heap.size 0 10 10 (fun _ => True) (by omega) (by omega) (by omega) (by simp) ?_).mono ?_
    · intro j hj
      obtain ⟨x, hx, _⟩ := cells_new w1 [-1, 0, 127, 128, 16383, 16384, 1000000000, 1000000001, 9223372036854775807, -9223372036854775808] 3 j hj
      exact ⟨x, hx, trivial⟩
    rintro e w2 ⟨v, rfl, ⟨s, rfl, _⟩, c2, g2⟩
    have HC2 := Lib.hid c2
    have HG2 := Lib.hid (grown_trans HG1.out (grown_trans (grown_alloc (grown_refl w1 (some g)) _) g2))
    clear c2 g2
    go_wp2_with fail
    go_ret
    exact ⟨_, rfl, ⟨_, rfl⟩, HC2.out, HG2.out⟩
  · have HR : (r == 0) = false := by simp [h0]
    by_cases h1 : r = 1
    · have HR1 : (r == 1) = true := by simp [h1]
      have HH := Lib.hid h1
      clear h1
      go_wp2_with fail
      refine (below w0 _ g HC1.out 1000000000 (by omega)).mono ?_
      rintro e w2 ⟨v, rfl, ⟨s, rfl, _, _⟩, c2, g2⟩
      have HC2 := Lib.hid c2
      have HG2 := Lib.hid (grown_trans HG1.out g2)
      clear c2 g2
      go_wp2_with fail
      go_ret
      exact ⟨_, rfl, ⟨_, rfl⟩, HC2.out, HG2.out⟩
    · have HR1 : (r == 1) = false := by simp [h1]
      go_wp2_with fail
      refine (below w0 _ g HC1.out 400 (by omega)).mono ?_
      rintro e w2 ⟨v, rfl, ⟨s, rfl, _, _⟩, c2, g2⟩
      have HC2 := Lib.hid c2
      have HG2 := Lib.hid (grown_trans HG1.out g2)
      clear c2 g2
      go_wp2_with fail
      go_ret
      exact ⟨_, rfl, ⟨_, rfl⟩, HC2.out, HG2.out⟩

/-- three whole numbers, nothing that was there turned -/
def Three (w : World) (e : Ending) (w' : World) : Prop := ∃ x y z : Int, e = .returned (.tuple #[.int .i64 x, .int .i64 y, .int .i64 z]) ∧ Below w.heap.size w w'

set_option maxHeartbeats 400000 in
theorem drawClamp (w : World) (A : Option Addr) (n c : Nat) (hb : Bytes w A n c) : Calls Try.prog 16 #[.slice A n c] w (Three w) := by
  have HB := Lib.hid hb
  clear hb
  go_enter Try.func16, Try.ntmps16
  go_wp2_with fail
  refine (new_ w A n c HB.out).mono ?_
  rintro e w1 ⟨rfl, c1⟩
  have HC1 := Lib.hid c1
  clear c1
  go_wp2_with fail
  refine (once w _ _ HC1.out 4 (by omega)).mono ?_
  rintro e w2 ⟨v, rfl, ⟨b, rfl⟩, c2, _⟩
  have HC2 := Lib.hid c2
  clear c2
  cases b with
  | true =>
    go_wp2_with fail
    refine (number w _ _ HC2.out).mono ?_
    rintro e w3 ⟨v, rfl, ⟨x, rfl⟩, c3, _⟩
    have HC3 := Lib.hid c3
    clear c3
    go_wp2_with fail
    refine (number w _ _ HC3.out).mono ?_
    rintro e w4 ⟨v, rfl, ⟨y, rfl⟩, c4, _⟩
    have HC4 := Lib.hid c4
    clear c4
    go_wp2_with fail
    refine (number w _ _ HC4.out).mono ?_
    rintro e w5 ⟨v, rfl, ⟨z, rfl⟩, c5, _⟩
    have HC5 := Lib.hid c5
    clear c5
    go_wp2_with fail
    go_ret3
    exact ⟨_, _, _, rfl, HC5.out.below⟩
  | false =>
    go_wp2_with fail
    refine (below w _ _ HC2.out 40 (by omega)).mono ?_
    rintro e w3 ⟨v, rfl, ⟨x, rfl, _, _⟩, c3, _⟩
    have HC3 := Lib.hid c3
    clear c3
    go_wp2_with fail
    refine (below w _ _ HC3.out 80 (by omega)).mono ?_
    rintro e w4 ⟨v, rfl, ⟨y, rfl, _, _⟩, c4, _⟩
    have HC4 := Lib.hid c4
    clear c4
    go_wp2_with fail
    refine (below w _ _ HC4.out 30 (by omega)).mono ?_
    rintro e w5 ⟨v, rfl, ⟨z, rfl, _, _⟩, c5, _⟩
    have HC5 := Lib.hid c5
    clear c5
    go_wp2_with fail
    go_ret3
    exact ⟨_, _, _, rfl, HC5.out.below⟩
end Go.Proofs.Ytoejigbeegkfoaa.draw
