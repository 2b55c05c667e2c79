/- A number that may lie near the ends of ranges. -/
import Derived.Test.YtjclldiaddoobaaDrawRng
import Derived.Deep.RegionHeld3
namespace Go.Proofs.Ytjclldiaddoobaa.rng
open Go.RowKit base Fl same draw
set_option linter.unusedVariables false
attribute [local go_sem] store_f

theorem Rs.grown {w w' : World} {b off n c : Nat} {F D U : Nat → Nat} {g : Nat} (h : Rs w (some ⟨b, off, none⟩) n c F D U) (hn : 0 < n) (k : w.grownBy w' (some g)) (hb : b ≠ g) : Rs w' (some ⟨b, off, none⟩) n c F D U := by
  obtain ⟨h1, h2, h3⟩ := h
  refine ⟨h1, h2, fun _ => ?_⟩
  obtain ⟨b', off', e, hlt, hc⟩ := h3 hn
  cases e
  have hk : ∀ o, w'.cell? ⟨b, o, none⟩ = w.cell? ⟨b, o, none⟩ := fun o => World.cell?_of_block (k.block b hlt (by simp [hb]))
  refine ⟨b, off, rfl, Nat.lt_of_lt_of_le hlt k.size, fun j hj => ?_⟩
  obtain ⟨⟨x, y, z⟩, l⟩ := hc j hj
  exact ⟨⟨(hk _).trans x, (hk _).trans y, (hk _).trans z⟩, l⟩

theorem St.drew {w0 w W : World} {g : Nat} (h : St w0 w g W) : St w0 w g W.drew := h.drewN 1
theorem Bk.drew {w : World} {b f d u : Nat} (h : Bk w b f d u) : Bk w.drew b f d u := h

set_option maxHeartbeats 4000000 in
set_option maxRecDepth 100000 in
theorem l02Near (w0 w : World) (g : Nat) (hcur : Cur w0 w g) (b off n c : Nat) (F D U : Nat → Nat) (h : Rs w (some ⟨b, off, none⟩) n c F D U) (hn : 1 ≤ n) (hn' : n ≤ 1000) (hb : b ≠ g) :
    Calls Try.prog 55 #[.pointer (some ⟨g, 0, none⟩), .slice (some ⟨b, off, none⟩) n c] w (draw.Ends (IsW .f32) w0 w g) := by
  have HC := Lib.hid hcur
  have HR := Lib.hid h
  have hu := fun k b => unary_neg_float k b
  have hglt := hcur.lt
  clear hcur h
  go_enter Try.func55, Try.ntmps55
  have hz : ((n : Int) == 0) = false := by simp; omega
  go_wp2_with fail
  refine (once w0 _ g HC.out 4 (by omega)).mono ?_
  rintro e w1 ⟨_, rfl, ⟨b1, rfl⟩, c1, g1⟩
  have HC1 := Lib.hid c1
  have HG1 := Lib.hid g1
  have HR1 := Lib.hid (HR.out.grown (by omega) g1 hb)
  clear c1 g1
  cases b1 with
  | true =>
    go_wp2_with fail
    refine (single w0 _ g HC1.out).mono ?_
    rintro e w2 ⟨_, rfl, ⟨x, rfl, hx⟩, c2, g2⟩
    have HC2 := Lib.hid c2
    have HG2 := Lib.hid (grown_trans HG1.out g2)
    have HX := Lib.hid hx
    clear c2 g2 hx
    go_wp2_with fail
    go_ret
    exact ⟨_, rfl, ⟨x, rfl, HX.out⟩, HC2.out, HG2.out⟩
  | false =>
    go_wp2_with fail
    refine (below w0 _ g HC1.out n (by omega)).mono ?_
    rintro e w2 ⟨_, rfl, ⟨r, rfl, r0, r1⟩, c2, g2⟩
    have HC2 := Lib.hid c2
    obtain ⟨b', off', e', hlt, hcells⟩ := (HR1.out.grown (by omega) g2 hb).2.2 (by omega)
    cases e'
    obtain ⟨k, rfl⟩ : ∃ k : Nat, r = k := ⟨r.toNat, by omega⟩
    have hk : k < n := by omega
    obtain ⟨⟨s0, s1, s2⟩, lF, lD, lU⟩ := hcells k hk
    have hrg : w2.heap.size ≠ g := by have := c2.lt; omega
    have LF := Lib.hid lF; have LD := Lib.hid lD; have LU := Lib.hid lU
    have ST2 := Lib.hid (St.mk c2 (grown_trans HG1.out g2))
    clear c2 g2 hcells lF lD lU
    go_wp2_with fail
    refine (below w0 _ g (ST2.out.alloc (.cells #[.float .f32 (F k), .float .f32 (D k), .float .f32 (U k)] 57)).cur 5 (by omega)).mono ?_
    rintro e w4 ⟨_, rfl, ⟨q, rfl, q0, q1⟩, c4, g4⟩
    have ST4 := Lib.hid ((ST2.out.alloc _).draw c4 g4)
    have B4 := (Bk.new w2 (F k) (D k) (U k)).grown g4 (by simpa using hrg)
    have x0 := B4.c0; have x1 := B4.c1; have x2 := B4.c2
    have hq : q = 0 ∨ q = 1 ∨ q = 2 ∨ q = 3 ∨ q = 4 := by omega
    clear c4 g4 s0 s1 s2
    rcases hq with rfl | rfl | rfl | rfl | rfl
    · clear B4
      go_wp2_with fail
      refine (once w0 _ g (ST4.out).cur 2 (by omega)).mono ?_
      rintro e w6 ⟨_, rfl, ⟨b2, rfl⟩, c6, g6⟩
      have ST6 := Lib.hid ((ST4.out).draw c6 g6)
      clear c6 g6
      cases b2 with
      | true =>
        go_wp2_with fail
        go_ret
        exact ⟨_, rfl, ⟨_, rfl, negFloat_lt .f32 LU.out⟩, ST6.out.cur, ST6.out.gr⟩
      | false =>
        go_wp2_with fail
        go_ret
        exact ⟨_, rfl, ⟨_, rfl, LU.out⟩, ST6.out.cur, ST6.out.gr⟩
    · clear B4
      go_wp2_with fail
      refine (once w0 _ g (ST4.out).cur 2 (by omega)).mono ?_
      rintro e w6 ⟨_, rfl, ⟨b2, rfl⟩, c6, g6⟩
      have ST6 := Lib.hid ((ST4.out).draw c6 g6)
      clear c6 g6
      cases b2 with
      | true =>
        go_wp2_with fail
        go_ret
        exact ⟨_, rfl, ⟨_, rfl, negFloat_lt .f32 LD.out⟩, ST6.out.cur, ST6.out.gr⟩
      | false =>
        go_wp2_with fail
        go_ret
        exact ⟨_, rfl, ⟨_, rfl, LD.out⟩, ST6.out.cur, ST6.out.gr⟩
    · have B5 := Lib.hid B4
      clear B4
      go_wp2_with fail
      go_region_with ((go_at_call 57; refine (below w0 _ g ST4.out.drew.cur 300 (by omega)).mono ?_; rintro e w5 ⟨_, rfl, ⟨p, rfl, p0, p1⟩, c5, g5⟩; have ST5 := Lib.hid (ST4.out.drew.draw c5 g5); have y0 := (B5.out.drew.grown g5 (by simpa using hrg)).c0; obtain ⟨z1, m1, a1, _⟩ := arith_w Try.prog (op := .mul) (by simp) .f32 (F k) (floatOfInt .f32 p) 29 w5; obtain ⟨z2, m2, a2, l2⟩ := arith_at Try.prog (op := .quo) (by simp) .f32 z1 1132462080 29 w5 m1; have L2 := Lib.hid l2; clear l2 c5 g5))
      all_goals
        (go_wp2_with fail
         refine (once w0 _ g (ST5.out.drewN m2).cur 2 (by omega)).mono ?_
         rintro e w6 ⟨_, rfl, ⟨b2, rfl⟩, c6, g6⟩
         have ST6 := Lib.hid ((ST5.out.drewN m2).draw c6 g6)
         clear c6 g6
         cases b2 with
         | true =>
           go_wp2_with fail
           go_ret
           exact ⟨_, rfl, ⟨_, rfl, negFloat_lt .f32 L2.out⟩, ST6.out.cur, ST6.out.gr⟩
         | false =>
           go_wp2_with fail
           go_ret
           exact ⟨_, rfl, ⟨_, rfl, L2.out⟩, ST6.out.cur, ST6.out.gr⟩)
    · obtain ⟨z1, m1, a1, _⟩ := arith_w Try.prog (op := .mul) (by simp) .f32 (U k) 1132494848 29 w4
      obtain ⟨z2, m2, a2, l2⟩ := arith_at Try.prog (op := .quo) (by simp) .f32 z1 1132462080 29 w4 m1
      have L2 := Lib.hid l2
      clear B4 l2
      go_wp2_with fail
      refine (once w0 _ g (ST4.out.drewN m2).cur 2 (by omega)).mono ?_
      rintro e w6 ⟨_, rfl, ⟨b2, rfl⟩, c6, g6⟩
      have ST6 := Lib.hid ((ST4.out.drewN m2).draw c6 g6)
      clear c6 g6
      cases b2 with
      | true =>
        go_wp2_with fail
        go_ret
        exact ⟨_, rfl, ⟨_, rfl, negFloat_lt .f32 L2.out⟩, ST6.out.cur, ST6.out.gr⟩
      | false =>
        go_wp2_with fail
        go_ret
        exact ⟨_, rfl, ⟨_, rfl, L2.out⟩, ST6.out.cur, ST6.out.gr⟩
    · clear B4
      go_wp2_with fail
      refine (once w0 _ g (ST4.out).cur 2 (by omega)).mono ?_
      rintro e w6 ⟨_, rfl, ⟨b2, rfl⟩, c6, g6⟩
      have ST6 := Lib.hid ((ST4.out).draw c6 g6)
      clear c6 g6
      cases b2 with
      | true =>
        go_wp2_with fail
        go_ret
        exact ⟨_, rfl, ⟨_, rfl, negFloat_lt .f32 LF.out⟩, ST6.out.cur, ST6.out.gr⟩
      | false =>
        go_wp2_with fail
        go_ret
        exact ⟨_, rfl, ⟨_, rfl, LF.out⟩, ST6.out.cur, ST6.out.gr⟩
end Go.Proofs.Ytjclldiaddoobaa.rng
