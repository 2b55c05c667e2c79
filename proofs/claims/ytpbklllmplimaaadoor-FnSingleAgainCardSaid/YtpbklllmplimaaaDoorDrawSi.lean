/- Contracts of l01Mild and l01Single: each gives some single. -/
import Derived.Test.YtpbklllmplimaaaDoorDrawFl
namespace Go.Proofs.YtpbklllmplimaaaDoor.draw
open Go.RowKit base Fl same
set_option linter.unusedVariables false

theorem plusL : ({ data := #[43] } : ByteArray).toList = [43] := by kernel_rfl
theorem minusL : ({ data := #[45] } : ByteArray).toList = [45] := by kernel_rfl
/-- some word of a kind -/
def IsW (k : FloatKind) (v : Value) : Prop := ∃ r, v = .float k r ∧ r < 2 ^ k.format.width

theorem mild (w0 w : World) (g : Nat) (hcur : Cur w0 w g) : Calls Tryd.prog 49 #[.pointer (some ⟨g, 0, none⟩)] w (Ends (IsW .f32) w0 w g) := by
  have HC := Lib.hid hcur
  clear hcur
  go_enter Tryd.func49, Tryd.ntmps49
  go_wp2_with fail
  refine (below w0 _ g HC.out 400 (by omega)).mono ?_
  rintro e w1 ⟨v, rfl, ⟨r, rfl, r0, r1⟩, c1, g1⟩
  have HC1 := Lib.hid c1
  have HG1 := Lib.hid g1
  have hlt := c1.lt
  clear c1 g1
  go_wp2_with fail
  refine (pickInt w0 _ g (HC1.out.alloc _) w1.heap.size 0 7 7 (fun _ => True) (by omega) (by omega) (by omega) (by simp) ?_).mono ?_
  · intro j hj
    obtain ⟨x, hx, _⟩ := cells_new w1 [1, 1, 2, 4, 3, 10, 16] 3 j hj
    exact ⟨x, hx, trivial⟩
  rintro e w2 ⟨v, rfl, ⟨s, rfl, _⟩, c2, g2⟩
  have HC2 := Lib.hid c2
  have HG2 := Lib.hid (grown_trans HG1.out (grown_trans (grown_alloc (grown_refl w1 (some g)) _) g2))
  clear c2 g2
  obtain ⟨z, m, hrun, hz⟩ := arith_w Tryd.prog (op := .quo) (by simp) .f32 (floatOfInt .f32 (r - 200)) (floatOfInt .f32 s) 22 w2
  have HZ := Lib.hid hz
  clear hz
  go_wp2_with fail
  go_ret
  exact ⟨_, rfl, ⟨_, rfl, HZ.out⟩, HC2.out.drewN m, grown_drewN HG2.out m⟩

set_option maxHeartbeats 1000000 in
set_option maxRecDepth 100000 in
theorem single (w0 w : World) (g : Nat) (hcur : Cur w0 w g) : Calls Tryd.prog 29 #[.pointer (some ⟨g, 0, none⟩)] w (Ends (IsW .f32) w0 w g) := by
  have HC := Lib.hid hcur
  clear hcur
  have hn := fun k b => unary_neg_float k b
  go_enter Tryd.func29, Tryd.ntmps29
  go_wp2_with fail
  refine (below w0 _ g HC.out 16 (by omega)).mono ?_
  rintro e w1 ⟨v, rfl, ⟨r, rfl, r0, r1⟩, c1, g1⟩
  have HC1 := Lib.hid c1
  have HG1 := Lib.hid g1
  clear c1 g1
  have hr : r = 0 ∨ r = 1 ∨ r = 2 ∨ r = 3 ∨ r = 4 ∨ r = 5 ∨ r = 6 ∨ r = 7 ∨ r = 8 ∨ r = 9 ∨ 10 ≤ r := by omega
  rcases hr with rfl | rfl | rfl | rfl | rfl | rfl | rfl | rfl | rfl | rfl | hr
  · go_wp2_with fail
    go_ret
    exact ⟨_, rfl, ⟨_, rfl, by decide⟩, HC1.out, HG1.out⟩
  · go_wp2_with fail
    go_ret
    exact ⟨_, rfl, ⟨_, rfl, by decide⟩, HC1.out, HG1.out⟩
  · obtain ⟨z, m, hrun, hz⟩ := arith_w Tryd.prog (op := .quo) (by simp) .f32 1065353216 0 22 w1
    have HZ := Lib.hid hz
    clear hz
    go_wp2_with fail
    go_ret
    exact ⟨_, rfl, ⟨_, rfl, HZ.out⟩, HC1.out.drewN m, grown_drewN HG1.out m⟩
  · obtain ⟨z, m, hrun, hz⟩ := arith_w Tryd.prog (op := .quo) (by simp) .f32 3212836864 0 22 w1
    have HZ := Lib.hid hz
    clear hz
    go_wp2_with fail
    go_ret
    exact ⟨_, rfl, ⟨_, rfl, HZ.out⟩, HC1.out.drewN m, grown_drewN HG1.out m⟩
  · obtain ⟨z, m, hrun, hz⟩ := arith_w Tryd.prog (op := .quo) (by simp) .f32 0 0 22 w1
    have HZ := Lib.hid hz
    clear hz
    go_wp2_with fail
    go_ret
    exact ⟨_, rfl, ⟨_, rfl, HZ.out⟩, HC1.out.drewN m, grown_drewN HG1.out m⟩
  · go_wp2_with fail
    go_ret
    exact ⟨_, rfl, ⟨_, rfl, by decide⟩, HC1.out, HG1.out⟩
  · go_wp2_with fail
    refine (makeSingle_any _ (Or.inl plusL) _ _ (by omega) (by omega) (by omega) (by omega) _).mono ?_
    rintro e w4 ⟨z, b, n, rfl, hz, rfl⟩
    have HZ := Lib.hid hz
    clear hz
    go_wp2_with fail
    go_ret
    exact ⟨_, rfl, ⟨_, rfl, HZ.out⟩, HC1.out.drewN n, grown_drewN HG1.out n⟩
  · go_wp2_with fail
    refine (below w0 _ g HC1.out 16777215 (by omega)).mono ?_
    rintro e w2 ⟨v, rfl, ⟨x, rfl, x0, x1⟩, c2, g2⟩
    have HC2 := Lib.hid c2
    have HG2 := Lib.hid (grown_trans HG1.out g2)
    clear c2 g2
    go_wp2_with fail
    refine (below w0 _ g HC2.out 230 (by omega)).mono ?_
    rintro e w3 ⟨v, rfl, ⟨y, rfl, y0, y1⟩, c3, g3⟩
    have HC3 := Lib.hid c3
    have HG3 := Lib.hid (grown_trans HG2.out g3)
    clear c3 g3
    go_wp2_with fail
    refine (makeSingle_any _ (by first | exact Or.inl plusL | exact Or.inr minusL) _ _ (by omega) (by omega) (by omega) (by omega) _).mono ?_
    rintro e w4 ⟨z, b, n, rfl, hz, rfl⟩
    have HZ := Lib.hid hz
    clear hz
    go_wp2_with fail
    go_ret
    exact ⟨_, rfl, ⟨_, rfl, HZ.out⟩, HC3.out.drewN n, grown_drewN HG3.out n⟩
  · go_wp2_with fail
    refine (below w0 _ g HC1.out 16777215 (by omega)).mono ?_
    rintro e w2 ⟨v, rfl, ⟨x, rfl, x0, x1⟩, c2, g2⟩
    have HC2 := Lib.hid c2
    have HG2 := Lib.hid (grown_trans HG1.out g2)
    clear c2 g2
    go_wp2_with fail
    refine (below w0 _ g HC2.out 40 (by omega)).mono ?_
    rintro e w3 ⟨v, rfl, ⟨y, rfl, y0, y1⟩, c3, g3⟩
    have HC3 := Lib.hid c3
    have HG3 := Lib.hid (grown_trans HG2.out g3)
    clear c3 g3
    go_wp2_with fail
    refine (makeSingle_any _ (by first | exact Or.inl plusL | exact Or.inr minusL) _ _ (by omega) (by omega) (by omega) (by omega) _).mono ?_
    rintro e w4 ⟨z, b, n, rfl, hz, rfl⟩
    have HZ := Lib.hid hz
    clear hz
    go_wp2_with fail
    go_ret
    exact ⟨_, rfl, ⟨_, rfl, HZ.out⟩, HC3.out.drewN n, grown_drewN HG3.out n⟩
  · go_wp2_with fail
    refine (below w0 _ g HC1.out 16777215 (by omega)).mono ?_
    rintro e w2 ⟨v, rfl, ⟨x, rfl, x0, x1⟩, c2, g2⟩
    have HC2 := Lib.hid c2
    have HG2 := Lib.hid (grown_trans HG1.out g2)
    clear c2 g2
    go_wp2_with fail
    refine (below w0 _ g HC2.out 40 (by omega)).mono ?_
    rintro e w3 ⟨v, rfl, ⟨y, rfl, y0, y1⟩, c3, g3⟩
    have HC3 := Lib.hid c3
    have HG3 := Lib.hid (grown_trans HG2.out g3)
    clear c3 g3
    go_wp2_with fail
    refine (makeSingle_any _ (by first | exact Or.inl plusL | exact Or.inr minusL) _ _ (by omega) (by omega) (by omega) (by omega) _).mono ?_
    rintro e w4 ⟨z, b, n, rfl, hz, rfl⟩
    have HZ := Lib.hid hz
    clear hz
    go_wp2_with fail
    go_ret
    exact ⟨_, rfl, ⟨_, rfl, HZ.out⟩, HC3.out.drewN n, grown_drewN HG3.out n⟩
  · have t0 : (r == 0) = false := by simp; omega
    have t1 : (r == 1) = false := by simp; omega
    have t2 : (r == 2) = false := by simp; omega
    have t3 : (r == 3) = false := by simp; omega
    have t4 : (r == 4) = false := by simp; omega
    have t5 : (r == 5) = false := by simp; omega
    have t6 : (r == 6) = false := by simp; omega
    have t7 : (r == 7) = false := by simp; omega
    have t8 : (r == 8) = false := by simp; omega
    have t9 : (r == 9) = false := by simp; omega
    go_wp2_with fail
    refine (mild w0 _ g HC1.out).mono ?_
    rintro e w2 ⟨v, rfl, ⟨z, rfl, hz⟩, c2, g2⟩
    have HC2 := Lib.hid c2
    have HG2 := Lib.hid (grown_trans HG1.out g2)
    have HZ := Lib.hid hz
    clear c2 g2 hz
    go_wp2_with fail
    go_ret
    exact ⟨_, rfl, ⟨_, rfl, HZ.out⟩, HC2.out, HG2.out⟩
end Go.Proofs.YtpbklllmplimaaaDoor.draw
