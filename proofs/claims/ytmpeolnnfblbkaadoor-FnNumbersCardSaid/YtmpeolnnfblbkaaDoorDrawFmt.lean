/- Contracts of l01Number and DrawFormatInt: they give whole numbers of 64 bits. -/
import Derived.Test.YtmpeolnnfblbkaaDoorDraw
namespace Go.Proofs.YtmpeolnnfblbkaaDoor.draw
open Go.RowKit base
set_option linter.unusedVariables false

def Int64_ : Value → Prop := Int_ (-9223372036854775808) 9223372036854775807
theorem wrap_in (z : Int) : -9223372036854775808 ≤ wrap64 z ∧ wrap64 z ≤ 9223372036854775807 := by
  unfold wrap64; omega
theorem cells_newB (w : World) (l : List Int) (t : TypeId) : ∀ j, j < l.length → ∃ x : Int, (w.alloc (.cells (l.map (Value.int .i64)).toArray t)).cell? ⟨w.heap.size, 0 + j, none⟩ = some (.int .i64 x) ∧ x ∈ l := by
  intro j hj
  refine ⟨l[j], ?_, List.getElem_mem hj⟩
  rw [World.cell?_alloc_new]
  simp [hj]

set_option maxRecDepth 100000 in
theorem numberB (w0 w : World) (g : Nat) (hcur : Cur w0 w g) : Calls Tryd.prog 34 #[.pointer (some ⟨g, 0, none⟩)] w (Ends Int64_ w0 w g) := by
  have HC := Lib.hid hcur
  clear hcur
  go_enter Tryd.func34, Tryd.ntmps34
  go_wp2_with fail
  refine (below w0 _ g HC.out 4 (by omega)).mono ?_
  rintro e w1 ⟨v, rfl, ⟨r, rfl, r0, r1⟩, c1, g1⟩
  have HC1 := Lib.hid c1
  have HG1 := Lib.hid g1
  clear c1 g1
  by_cases h0 : r = 0
  · have HR : (r == 0) = true := by simp [h0]
    have HH := Lib.hid h0
    clear h0
    go_wp2_with fail
    have hlt := HC1.out.lt
    refine (pickInt w0 _ g (HC1.out.alloc _) w1.heap.size 0 10 10 (fun x => -9223372036854775808 ≤ x ∧ x ≤ 9223372036854775807) (by omega) (by omega) (by omega) (by simp) ?_).mono ?_
    · intro j hj
      obtain ⟨x, hx, hm⟩ := cells_newB w1 [-1, 0, 127, 128, 16383, 16384, 1000000000, 1000000001, 9223372036854775807, -9223372036854775808] 3 j hj
      refine ⟨x, hx, ?_⟩
      simp only [List.mem_cons, List.not_mem_nil, or_false] at hm
      rcases hm with rfl | rfl | rfl | rfl | rfl | rfl | rfl | rfl | rfl | rfl <;> decide
    rintro e w2 ⟨v, rfl, ⟨s, rfl, s0⟩, c2, g2⟩
    have HC2 := Lib.hid c2
    have HG2 := Lib.hid (grown_trans HG1.out (grown_trans (grown_alloc (grown_refl w1 (some g)) _) g2))
    clear c2 g2
    go_wp2_with fail
    go_ret
    exact ⟨_, rfl, ⟨_, rfl, s0.1, s0.2⟩, HC2.out, HG2.out⟩
  · have HR : (r == 0) = false := by simp [h0]
    by_cases h1 : r = 1
    · have HR1 : (r == 1) = true := by simp [h1]
      have HH := Lib.hid h1
      clear h1
      go_wp2_with fail
      refine (below w0 _ g HC1.out 1000000000 (by omega)).mono ?_
      rintro e w2 ⟨v, rfl, ⟨s, rfl, s0, s1⟩, c2, g2⟩
      have HC2 := Lib.hid c2
      have HG2 := Lib.hid (grown_trans HG1.out g2)
      clear c2 g2
      go_wp2_with fail
      go_ret
      exact ⟨_, rfl, ⟨_, rfl, by omega, by omega⟩, HC2.out, HG2.out⟩
    · have HR1 : (r == 1) = false := by simp [h1]
      go_wp2_with fail
      refine (below w0 _ g HC1.out 400 (by omega)).mono ?_
      rintro e w2 ⟨v, rfl, ⟨s, rfl, s0, s1⟩, c2, g2⟩
      have HC2 := Lib.hid c2
      have HG2 := Lib.hid (grown_trans HG1.out g2)
      clear c2 g2
      go_wp2_with fail
      go_ret
      exact ⟨_, rfl, ⟨_, rfl, by omega, by omega⟩, HC2.out, HG2.out⟩

/-- a whole number of 64 bits, nothing that was there turned -/
def One64 (w : World) (e : Ending) (w' : World) : Prop := ∃ x : Int, e = .returned (.int .i64 x) ∧ -9223372036854775808 ≤ x ∧ x ≤ 9223372036854775807 ∧ Below w.heap.size w w'

set_option maxHeartbeats 400000 in
theorem drawFormatInt (w : World) (A : Option Addr) (n c : Nat) (hb : Bytes w A n c) : Calls Tryd.prog 21 #[.slice A n c] w (One64 w) := by
  have HB := Lib.hid hb
  clear hb
  go_enter Tryd.func21, Tryd.ntmps21
  go_wp2_with fail
  refine (new_ w A n c HB.out).mono ?_
  rintro e w1 ⟨rfl, c1⟩
  have HC1 := Lib.hid c1
  clear c1
  go_wp2_with fail
  refine (once w _ _ HC1.out 3 (by omega)).mono ?_
  rintro e w2 ⟨v, rfl, ⟨b, rfl⟩, c2, _⟩
  have HC2 := Lib.hid c2
  clear c2
  cases b with
  | true =>
    go_wp2_with fail
    refine (below w _ _ HC2.out 1000000 (by omega)).mono ?_
    rintro e w3 ⟨v, rfl, ⟨x, rfl, _, _⟩, c3, _⟩
    have HC3 := Lib.hid c3
    clear c3
    go_wp2_with fail
    refine (below w _ _ HC3.out 2000000 (by omega)).mono ?_
    rintro e w4 ⟨v, rfl, ⟨y, rfl, _, _⟩, c4, _⟩
    have HC4 := Lib.hid c4
    clear c4
    go_wp2_with fail
    go_ret
    exact ⟨_, rfl, (wrap_in _).1, (wrap_in _).2, HC4.out.below⟩
  | false =>
    go_wp2_with fail
    refine (numberB w _ _ HC2.out).mono ?_
    rintro e w3 ⟨v, rfl, ⟨x, rfl, x0, x1⟩, c3, _⟩
    have HC3 := Lib.hid c3
    clear c3
    go_wp2_with fail
    go_ret
    exact ⟨_, rfl, x0, x1, HC3.out.below⟩
end Go.Proofs.YtmpeolnnfblbkaaDoor.draw
