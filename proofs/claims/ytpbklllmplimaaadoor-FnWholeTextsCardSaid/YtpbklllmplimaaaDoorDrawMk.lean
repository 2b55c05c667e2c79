/- The contract of DrawMakeSingle: a text and two whole numbers. -/
import Derived.Test.YtpbklllmplimaaaDoorDraw
import Derived.Test.YtpbklllmplimaaaDoorDrawCells
namespace Go.Proofs.YtpbklllmplimaaaDoor.draw
open Go.RowKit base
set_option linter.unusedVariables false

theorem pickStr (w0 w : World) (g : Nat) (hcur : Cur w0 w g) (b off n c : Nat) (hn : 1 ≤ n) (hm : n ≤ 1000) (hbg : b ≠ g) (hb : b < w.heap.size) (hcells : ∀ j, j < n → ∃ x : ByteArray, w.cell? ⟨b, off + j, none⟩ = some (.string x)) :
    Calls Tryd.prog 53 #[.pointer (some ⟨g, 0, none⟩), .slice (some ⟨b, off, none⟩) n c] w (Ends (fun v => ∃ x : ByteArray, v = .string x) w0 w g) := by
  have HC := Lib.hid hcur
  have HX := Lib.hid hcells
  clear hcur hcells
  go_enter Tryd.func53, Tryd.ntmps53
  go_wp2_with fail
  refine (below w0 _ g HC.out n (by omega)).mono ?_
  rintro e w1 ⟨v, rfl, ⟨r, rfl, r0, r1⟩, c1, g1⟩
  obtain ⟨x, hx⟩ := HX.out r.toNat (by omega)
  have hx1 : w1.cell? ⟨b, off + r.toNat, none⟩ = some (.string x) := (World.cell?_of_block (g1.block b hb (by simp [hbg]))).trans hx
  have HC1 := Lib.hid c1
  have HG1 := Lib.hid g1
  clear c1 g1 hx
  have hr : r < (n : Int) := by omega
  go_wp2_with fail
  go_ret
  exact ⟨_, rfl, ⟨_, rfl⟩, HC1.out, HG1.out⟩

theorem str_new (w : World) (l : List ByteArray) (t : TypeId) : ∀ j, j < l.length → ∃ x : ByteArray, (w.alloc (.cells (l.map Value.string).toArray t)).cell? ⟨w.heap.size, 0 + j, none⟩ = some (.string x) := by
  intro j hj
  refine ⟨l[j], ?_⟩
  rw [World.cell?_alloc_new]
  simp [hj]

theorem sign_ (w0 w : World) (g : Nat) (hcur : Cur w0 w g) : Calls Tryd.prog 35 #[.pointer (some ⟨g, 0, none⟩)] w (Ends (fun v => ∃ x : ByteArray, v = .string x) w0 w g) := by
  have HC := Lib.hid hcur
  have hlt := hcur.lt
  clear hcur
  go_enter Tryd.func35, Tryd.ntmps35
  go_wp2_with fail
  refine (pickStr w0 _ g (HC.out.alloc _) w.heap.size 0 10 10 (by omega) (by omega) (by omega) (by simp) (str_new w [⟨#[43]⟩, ⟨#[45]⟩, ⟨#[43]⟩, ⟨#[45]⟩, ⟨#[43]⟩, ⟨#[45]⟩, ⟨#[]⟩, ⟨#[42]⟩, ⟨#[43, 43]⟩, ⟨#[32]⟩] _)).mono ?_
  rintro e w2 ⟨v, rfl, ⟨s, rfl⟩, c2, g2⟩
  have HC2 := Lib.hid c2
  have HG2 := Lib.hid (grown_trans (grown_alloc (grown_refl w (some g)) _) g2)
  clear c2 g2
  go_wp2_with fail
  go_ret
  exact ⟨_, rfl, ⟨_, rfl⟩, HC2.out, HG2.out⟩

/-- a text and two whole numbers -/
def Made (w : World) (e : Ending) (w' : World) : Prop := ∃ (s : ByteArray) (m x : Int), e = .returned (.tuple #[.string s, .int .i64 m, .int .i64 x]) ∧ -1 ≤ m ∧ m ≤ 16777216 ∧ Below w.heap.size w w'

set_option maxHeartbeats 1000000 in
theorem drawMakeSingle (w : World) (A : Option Addr) (n c : Nat) (hb : Bytes w A n c) : Calls Tryd.prog 15 #[.slice A n c] w (Made w) := by
  have HB := Lib.hid hb
  clear hb
  go_enter Tryd.func15, Tryd.ntmps15
  go_wp2_with fail
  refine (new_ w A n c HB.out).mono ?_
  rintro e w1 ⟨rfl, c1⟩
  have HC1 := Lib.hid c1
  clear c1
  go_wp2_with fail
  refine (sign_ w _ _ HC1.out).mono ?_
  rintro e w2 ⟨v, rfl, ⟨s, rfl⟩, c2, _⟩
  have HC2 := Lib.hid c2
  clear c2
  go_wp2_with fail
  refine (below w _ _ HC2.out 16777216 (by omega)).mono ?_
  rintro e w3 ⟨v, rfl, ⟨x, rfl, x0, x1⟩, c3, _⟩
  have HC3 := Lib.hid c3
  clear c3
  go_wp2_with fail
  refine (below w _ _ HC3.out 4000 (by omega)).mono ?_
  rintro e w4 ⟨v, rfl, ⟨y, rfl, y0, y1⟩, c4, _⟩
  have HC4 := Lib.hid c4
  have hlt4 := c4.lt
  clear c4
  go_wp2_with fail
  refine (pickInt w _ _ (HC4.out.alloc _) w4.heap.size 0 9 9 (fun z => -1 ≤ z ∧ z ≤ 16777216) (by omega) (by omega) (by omega) (by simp) ?_).mono ?_
  · intro j hj
    obtain ⟨z, hz, hm⟩ := cells_new w4 [0, 1, 3, 255, 16777215, 16777216, -1, x, y] 3 j hj
    refine ⟨z, hz, ?_⟩
    simp only [List.mem_cons, List.not_mem_nil, or_false] at hm
    omega
  rintro e w5 ⟨v, rfl, ⟨m, rfl, m0⟩, c5, _⟩
  have HC5 := Lib.hid c5
  have HM := Lib.hid m0
  clear c5 m0 hlt4
  go_wp2_with fail
  refine (below w _ _ HC5.out 277 (by omega)).mono ?_
  rintro e w6 ⟨v, rfl, ⟨x', rfl, x0', x1'⟩, c6, _⟩
  have HC6 := Lib.hid c6
  clear c6
  go_wp2_with fail
  refine (below w _ _ HC6.out 30 (by omega)).mono ?_
  rintro e w7 ⟨v, rfl, ⟨y', rfl, y0', y1'⟩, c7, _⟩
  have HC7 := Lib.hid c7
  have hlt7 := c7.lt
  clear c7
  go_wp2_with fail
  refine (pickInt w _ _ (HC7.out.alloc _) w7.heap.size 0 10 10 (fun z => True) (by omega) (by omega) (by omega) (by simp) ?_).mono ?_
  · intro j hj
    obtain ⟨z, hz, hm⟩ := cells_new w7 [0, -149, -150, 127, 128, 104, 105, -148, x' - 149, y' - 20] 3 j hj
    exact ⟨z, hz, trivial⟩
  rintro e w8 ⟨v, rfl, ⟨ex, rfl, _⟩, c8, _⟩
  have HC8 := Lib.hid c8
  clear c8
  go_wp2_with fail
  go_ret3
  exact ⟨_, _, _, rfl, HM.out.1, HM.out.2, HC8.out.below⟩
end Go.Proofs.YtpbklllmplimaaaDoor.draw
