/- The law FnExactComposeTurns, walked: it returns true. -/
import Derived.Test.YtoejigbeegkfoaaRows
import Derived.Test.YtoejigbeegkfoaaTurnB
import Derived.Deep.RegionHeld3
import Derived.Deep.DeepCutAuto
namespace Go.Proofs.Ytoejigbeegkfoaa.fnExactComposeTurns
open Go.RowKit turnA base
set_option linter.unusedVariables false

/-- the two boxed turns lie as they did; what was there before is as it was -/
def At (w : World) (a b c d : Int) (w' : World) : Prop :=
  w'.cell? ⟨w.heap.size, 0, none⟩ = some (.int .i64 a) ∧ w'.cell? ⟨w.heap.size, 1, none⟩ = some (.int .i64 b) ∧
  w'.cell? ⟨w.heap.size + 1, 0, none⟩ = some (.int .i64 c) ∧ w'.cell? ⟨w.heap.size + 1, 1, none⟩ = some (.int .i64 d) ∧ Below w.heap.size w w' ∧ w.heap.size + 1 < w'.heap.size

theorem At.below {w : World} {a b c d : Int} {w1 w2 : World} (h : At w a b c d w1) (hb : Below w1.heap.size w1 w2) : At w a b c d w2 := by
  obtain ⟨h1, h2, h3, h4, h5, h6⟩ := h
  have hs := hb.size
  refine ⟨?_, ?_, ?_, ?_, h5.trans (hb.mono h5.size), by omega⟩
  · exact (hb.cell (p := ⟨w.heap.size, 0, none⟩) (by show w.heap.size < _; omega)).trans h1
  · exact (hb.cell (p := ⟨w.heap.size, 1, none⟩) (by show w.heap.size < _; omega)).trans h2
  · exact (hb.cell (p := ⟨w.heap.size + 1, 0, none⟩) h6).trans h3
  · exact (hb.cell (p := ⟨w.heap.size + 1, 1, none⟩) h6).trans h4

theorem At.start (w : World) (a b c d : Int) (t : TypeId) : At w a b c d ((w.alloc (.cells #[.int .i64 a, .int .i64 b] t)).alloc (.cells #[.int .i64 c, .int .i64 d] t)).drew := by
  refine ⟨?_, ?_, ?_, ?_, (((Below.refl _ _).alloc (Nat.le_refl _) _).alloc (by simp) _).drew, by simp⟩
  · simp [World.cell?_alloc_lt]
  · simp [World.cell?_alloc_lt]
  · simp
  · simp
theorem At.alloc {w : World} {a b c d : Int} {w1 : World} (h : At w a b c d w1) (o : Obj) : At w a b c d (w1.alloc o) := h.below ((Below.refl _ _).alloc (Nat.le_refl _) _)
theorem At.turned {w : World} {a b c d : Int} {w1 : World} {o : Obj} (o' : Obj) (h : At w a b c d (w1.alloc o)) (hs : w.heap.size + 1 < w1.heap.size) : At w a b c d (w1.alloc o') := by
  obtain ⟨h1, h2, h3, h4, h5, h6⟩ := h
  have hb : Below w1.heap.size w1 (w1.alloc o) := (Below.refl _ _).alloc (Nat.le_refl _) _
  have h0 : At w a b c d w1 := by
    refine ⟨?_, ?_, ?_, ?_, ⟨h5.os, h5.tape, h5.output, by omega, fun i hi => ?_⟩, hs⟩
    · exact (hb.cell (p := ⟨w.heap.size, 0, none⟩) (by show w.heap.size < _; omega)).symm.trans h1
    · exact (hb.cell (p := ⟨w.heap.size, 1, none⟩) (by show w.heap.size < _; omega)).symm.trans h2
    · exact (hb.cell (p := ⟨w.heap.size + 1, 0, none⟩) hs).symm.trans h3
    · exact (hb.cell (p := ⟨w.heap.size + 1, 1, none⟩) hs).symm.trans h4
    · exact (hb.block i (by omega)).symm.trans (h5.block i hi)
  exact h0.alloc o'

theorem At.set_ {w : World} {a b c d : Int} {w1 : World} (p : Addr) (v : Value) (h : At w a b c d w1) (hp : w.heap.size + 1 < p.block) : At w a b c d (w1.setCell p v) := by
  obtain ⟨h1, h2, h3, h4, h5, h6⟩ := h
  refine ⟨?_, ?_, ?_, ?_, h5.setCell (by omega) _, by simpa using h6⟩
  · rw [World.cell?_setCell_other w1 p _ v (by rintro rfl; simp at hp; omega)]; exact h1
  · rw [World.cell?_setCell_other w1 p _ v (by rintro rfl; simp at hp; omega)]; exact h2
  · rw [World.cell?_setCell_other w1 p _ v (by rintro rfl; simp at hp)]; exact h3
  · rw [World.cell?_setCell_other w1 p _ v (by rintro rfl; simp at hp)]; exact h4
theorem At.set2 {w : World} {a b c d : Int} {w1 : World} (p q : Addr) (u v : Value) (h : At w a b c d w1) (hp : w.heap.size + 1 < p.block) (hq : w.heap.size + 1 < q.block) : At w a b c d ((w1.setCell p u).setCell q v) :=
  (h.set_ p u hp).set_ q v hq

theorem below_step {n m : Nat} {w w1 w2 : World} (h : Hid (Below m w1 w2)) (h1 : Below n w w1) (hm : n ≤ m) : Below n w w2 := h1.trans (h.out.mono hm)

theorem At.size {w : World} {a b c d : Int} {w1 : World} (h : At w a b c d w1) : w.heap.size + 1 < w1.heap.size := h.2.2.2.2.2
theorem at_step {w w1 w2 : World} {a b c d : Int} (h : Hid (Below w1.heap.size w1 w2)) (h1 : At w a b c d w1) : At w a b c d w2 := h1.below h.out
theorem set_first {w : World} {g : Nat} (u v : Value) (h : ∃ y, w.cell? ⟨g, 0, none⟩ = some y) : ((w.setCell ⟨g, 0, none⟩ u).setCell ⟨g, 1, none⟩ v).cell? ⟨g, 0, none⟩ = some u := by
  obtain ⟨y, hy⟩ := h
  rw [World.cell?_setCell_other _ _ _ _ (by simp)]
  exact World.cell?_setCell_same _ _ _ hy
theorem set_second {w : World} {g : Nat} (u v : Value) (h : ∃ y, w.cell? ⟨g, 1, none⟩ = some y) : ((w.setCell ⟨g, 0, none⟩ u).setCell ⟨g, 1, none⟩ v).cell? ⟨g, 1, none⟩ = some v := by
  obtain ⟨y, hy⟩ := h
  exact World.cell?_setCell_same _ _ _ ((World.cell?_setCell_other _ _ _ _ (by simp)).trans hy)

theorem new0 (W : World) (x z : Value) (t : TypeId) {n : Nat} (hn : n = W.heap.size) : ∃ y, (W.alloc (.cells #[x, z] t)).cell? ⟨n, 0, none⟩ = some y := by
  subst hn; exact ⟨x, by rw [World.cell?_alloc_new]; rfl⟩
theorem new1 (W : World) (x z : Value) (t : TypeId) {n : Nat} (hn : n = W.heap.size) : ∃ y, (W.alloc (.cells #[x, z] t)).cell? ⟨n, 1, none⟩ = some y := by
  subst hn; exact ⟨z, by rw [World.cell?_alloc_new]; rfl⟩
/-- the same, and the turn at g -/
def At2 (w : World) (a b c d : Int) (g : Nat) (p q : Int) (w' : World) : Prop :=
  w'.cell? ⟨g, 0, none⟩ = some (.int .i64 p) ∧ w'.cell? ⟨g, 1, none⟩ = some (.int .i64 q) ∧ g < w'.heap.size ∧ At w a b c d w'
section
variable {w : World} {a b c d : Int} {g : Nat} {p q : Int} {w1 : World}
theorem At2.size (h : At2 w a b c d g p q w1) : w.heap.size + 1 < w1.heap.size := h.2.2.2.size
theorem At2.gsize (h : At2 w a b c d g p q w1) : g < w1.heap.size := h.2.2.1
theorem At2.below {w2 : World} (h : At2 w a b c d g p q w1) (hb : Below w1.heap.size w1 w2) : At2 w a b c d g p q w2 :=
  ⟨(hb.cell (p := ⟨g, 0, none⟩) h.2.2.1).trans h.1, (hb.cell (p := ⟨g, 1, none⟩) h.2.2.1).trans h.2.1, Nat.lt_of_lt_of_le h.2.2.1 hb.size, h.2.2.2.below hb⟩
theorem At2.drew (h : At2 w a b c d g p q w1) : At2 w a b c d g p q w1.drew := h.below (Below.refl _ _).drew
theorem At2.alloc (h : At2 w a b c d g p q w1) (o : Obj) : At2 w a b c d g p q (w1.alloc o) := h.below ((Below.refl _ _).alloc (Nat.le_refl _) _)
theorem At2.turned {o : Obj} (o' : Obj) (h : At2 w a b c d g p q (w1.alloc o)) (hs : w.heap.size + 1 < w1.heap.size) (hg : g < w1.heap.size) : At2 w a b c d g p q (w1.alloc o') := by
  have hb : Below w1.heap.size w1 (w1.alloc o) := (Below.refl _ _).alloc (Nat.le_refl _) _
  have hb' : Below w1.heap.size w1 (w1.alloc o') := (Below.refl _ _).alloc (Nat.le_refl _) _
  refine ⟨?_, ?_, Nat.lt_of_lt_of_le hg hb'.size, h.2.2.2.turned o' hs⟩
  · exact (hb'.cell (p := ⟨g, 0, none⟩) hg).trans ((hb.cell (p := ⟨g, 0, none⟩) hg).symm.trans h.1)
  · exact (hb'.cell (p := ⟨g, 1, none⟩) hg).trans ((hb.cell (p := ⟨g, 1, none⟩) hg).symm.trans h.2.1)
theorem At2.set2 (x y : Addr) (u v : Value) (h : At2 w a b c d g p q w1) (hp : w.heap.size + 1 < x.block) (hq : w.heap.size + 1 < y.block) (hg : g < x.block) (hg' : g < y.block) : At2 w a b c d g p q ((w1.setCell x u).setCell y v) := by
  refine ⟨?_, ?_, by simpa using h.2.2.1, h.2.2.2.set2 x y u v hp hq⟩
  · rw [World.cell?_setCell_other _ y _ v (by rintro rfl; exact absurd hg' (by simp)), World.cell?_setCell_other _ x _ u (by rintro rfl; exact absurd hg (by simp))]; exact h.1
  · rw [World.cell?_setCell_other _ y _ v (by rintro rfl; exact absurd hg' (by simp)), World.cell?_setCell_other _ x _ u (by rintro rfl; exact absurd hg (by simp))]; exact h.2.1
end

set_option maxHeartbeats 8000000 in
theorem walk (a : Int) (w0 : (Lit.int .i64 a).wf = true) (b : Int) (w1 : (Lit.int .i64 b).wf = true) (c : Int) (w2 : (Lit.int .i64 c).wf = true) (d : Int) (w3 : (Lit.int .i64 d).wf = true) (w : World) :
    Calls Try.prog 4 #[.agg #[.int .i64 a, .int .i64 b], .agg #[.int .i64 c, .int .i64 d]] w fun e w' => e = .returned (.bool true) ∧ Below w.heap.size w w' := by
  go_enter Try.func4, Try.ntmps4
  go_upto_region 1 with fail
  go_cut [5, 6] (fun s5 s6 wx => ∃ g : Nat, s5 = .pointer (some ⟨g, 0, none⟩) ∧ s6 = .bool (compOk a b c d) ∧ At w a b c d wx ∧ wx.cell? ⟨g, 0, none⟩ = some (.int .i64 (compQ a b c d)) ∧ wx.cell? ⟨g, 1, none⟩ = some (.int .i64 (compP a b c d)) ∧ w.heap.size + 1 < g ∧ g < wx.heap.size)
  case first =>
    go_region_held3 (fun w' => w'.cell? ⟨w.heap.size, 0, none⟩ = some (.int .i64 a) ∧ w'.cell? ⟨w.heap.size, 1, none⟩ = some (.int .i64 b) ∧ w'.cell? ⟨w.heap.size + 1, 0, none⟩ = some (.int .i64 c) ∧ w'.cell? ⟨w.heap.size + 1, 1, none⟩ = some (.int .i64 d) ∧ Below w.heap.size w w' ∧ w.heap.size + 1 < w'.heap.size)
      (first | exact (At.start w a b c d _ : At w a b c d _) | exact (At.below (w := w) ‹At w a b c d _› ‹Below _ _ _› : At w a b c d _) | exact (At.alloc (w := w) ‹At w a b c d _› _ : At w a b c d _) | ((refine (At.set2 (w := w) _ _ _ _ ‹At w a b c d _› ?_ ?_ : At w a b c d _)) <;> (show _ < _) <;> (dsimp only; omega)) | exact (At.turned (w := w) (o := .cells #[.int .i64 0, .int .i64 0] 24) _ ‹At w a b c d _› (by omega) : At w a b c d _) | go_keep)
      (first | (go_at_call 13; refine (spec_ComposeTurns a b c d _).mono ?_; rintro e w' ⟨rfl, hb⟩; have hsA := At.size ‹At w a b c d _›; have hs := hb.size; obtain ⟨hc, hf⟩ := bcell hb; (try simp only [World.size_alloc] at hc hf hs hsA); have hl := fun (b : Nat) (h : b < _) => Nat.lt_of_lt_of_le h hs; have z0 : w.heap.size < w'.heap.size := (by omega); have z1 : w.heap.size + 1 < w'.heap.size := (by omega); try have z2 : w.heap.size + 1 + 1 < w'.heap.size := (by omega)) | (go_at_call 10; refine (toTurn_any _ _ _).mono ?_; rintro e w' ⟨rfl, hb⟩; have hsA := At.size ‹At w a b c d _›; have hs := hb.size; obtain ⟨hc, hf⟩ := bcell hb; (try simp only [World.size_alloc, World.size_drew] at hc hf hs hsA); have hl := fun (b : Nat) (h : b < _) => Nat.lt_of_lt_of_le h hs; have z0 : w.heap.size < w'.heap.size := (by omega); have z1 : w.heap.size + 1 < w'.heap.size := (by omega); try have z2 : w.heap.size + 1 + 1 < w'.heap.size := (by omega)))
    all_goals
      (go_wp2_with fail
       go_meet
       refine ⟨_, rfl, rfl, ‹At w a b c d _›, ?_, ?_, ?_, ?_⟩
       · first | (rw [World.cell?_alloc_new]; rfl) | (refine set_first _ _ ?_; simp [*]; done) | (refine set_first _ _ ?_; simp [*]; exact new0 _ _ _ _ (by simp))
       · first | (rw [World.cell?_alloc_new]; rfl) | (refine set_second _ _ ?_; simp [*]; done) | (refine set_second _ _ ?_; simp [*]; exact new1 _ _ _ _ (by simp))
       · first | omega | (simp only [World.size_alloc, World.size_setCell]; omega)
       · first | omega | (simp only [World.size_alloc, World.size_setCell]; omega))
  case rest =>
    obtain ⟨g, rfl, rfl, hAt, hg0, hg1, hgl, hgs⟩ := hcut
    have hA2 : At2 w a b c d g (compQ a b c d) (compP a b c d) wc := ⟨hg0, hg1, hgs, hAt⟩
    have hfin := hAt
    obtain ⟨q1, q2, q3, q4, q5, q6⟩ := hfin
    have H5 := Lib.hid q5
    clear hAt q5
    go_upto_region 2 with fail
    go_cut [7, 8] (fun s7 s8 wy => ∃ g2 : Nat, s7 = .pointer (some ⟨g2, 0, none⟩) ∧ s8 = .bool (compOk a b c d) ∧ At2 w a b c d g (compQ a b c d) (compP a b c d) wy ∧ wy.cell? ⟨g2, 0, none⟩ = some (.int .i64 (compQ a b c d)) ∧ wy.cell? ⟨g2, 1, none⟩ = some (.int .i64 (compP a b c d)))
    case first =>
      go_region_held3 (fun w' => w'.cell? ⟨g, 0, none⟩ = some (.int .i64 (compQ a b c d)) ∧ w'.cell? ⟨g, 1, none⟩ = some (.int .i64 (compP a b c d)) ∧ g < w'.heap.size ∧ w'.cell? ⟨w.heap.size, 0, none⟩ = some (.int .i64 a) ∧ w'.cell? ⟨w.heap.size, 1, none⟩ = some (.int .i64 b) ∧ w'.cell? ⟨w.heap.size + 1, 0, none⟩ = some (.int .i64 c) ∧ w'.cell? ⟨w.heap.size + 1, 1, none⟩ = some (.int .i64 d) ∧ Below w.heap.size w w' ∧ w.heap.size + 1 < w'.heap.size)
        (first | exact (hA2.drew : At2 w a b c d g (compQ a b c d) (compP a b c d) _) | exact (At2.below (w := w) ‹At2 w a b c d g (compQ a b c d) (compP a b c d) _› ‹Below _ _ _› : At2 w a b c d g (compQ a b c d) (compP a b c d) _) | exact (At2.alloc (w := w) ‹At2 w a b c d g (compQ a b c d) (compP a b c d) _› _ : At2 w a b c d g (compQ a b c d) (compP a b c d) _) | ((refine (At2.set2 (w := w) _ _ _ _ ‹At2 w a b c d g (compQ a b c d) (compP a b c d) _› ?_ ?_ ?_ ?_ : At2 w a b c d g (compQ a b c d) (compP a b c d) _)) <;> (show _ < _) <;> (dsimp only; omega)) | ((refine (At2.turned (w := w) (o := .cells #[.int .i64 0, .int .i64 0] 24) _ ‹At2 w a b c d g (compQ a b c d) (compP a b c d) _› ?_ ?_ : At2 w a b c d g (compQ a b c d) (compP a b c d) _)) <;> omega) | go_keep)
        (first | (go_at_call 14; refine (impl_ComposeTurns a b c d _).mono ?_; rintro e w' ⟨rfl, hb⟩; have hsA := At2.size ‹At2 w a b c d g (compQ a b c d) (compP a b c d) _›; have hsG := At2.gsize ‹At2 w a b c d g (compQ a b c d) (compP a b c d) _›; have hs := hb.size; obtain ⟨hc, hf⟩ := bcell hb; (try simp only [World.size_alloc] at hc hf hs hsA hsG); have hl := fun (b : Nat) (h : b < _) => Nat.lt_of_lt_of_le h hs; have z0 : w.heap.size < w'.heap.size := (by omega); have zg : g < w'.heap.size := (by omega); have z1 : w.heap.size + 1 < w'.heap.size := (by omega); try have z2 : wc.heap.size < w'.heap.size := (by omega)) | (go_at_call 10; refine (toTurn_any _ _ _).mono ?_; rintro e w' ⟨rfl, hb⟩; have hsA := At2.size ‹At2 w a b c d g (compQ a b c d) (compP a b c d) _›; have hsG := At2.gsize ‹At2 w a b c d g (compQ a b c d) (compP a b c d) _›; have hs := hb.size; obtain ⟨hc, hf⟩ := bcell hb; (try simp only [World.size_alloc, World.size_drew] at hc hf hs hsA hsG); have hl := fun (b : Nat) (h : b < _) => Nat.lt_of_lt_of_le h hs; have z0 : w.heap.size < w'.heap.size := (by omega); have zg : g < w'.heap.size := (by omega); have z1 : w.heap.size + 1 < w'.heap.size := (by omega); try have z2 : wc.heap.size < w'.heap.size := (by omega)))
      all_goals
        (go_wp2_with fail
         go_meet
         refine ⟨_, rfl, rfl, ‹At2 w a b c d g (compQ a b c d) (compP a b c d) _›, ?_, ?_⟩
         · first | (rw [World.cell?_alloc_new]; rfl) | (refine set_first _ _ ?_; simp [*]; done) | (refine set_first _ _ ?_; simp [*]; exact new0 _ _ _ _ (by simp))
         · first | (rw [World.cell?_alloc_new]; rfl) | (refine set_second _ _ ?_; simp [*]; done) | (refine set_second _ _ ?_; simp [*]; exact new1 _ _ _ _ (by simp)))
    case rest =>
      obtain ⟨g2, rfl, rfl, ⟨k0, k1, k2, k3, k4, k5, k6, k7, k8⟩, k9, k10⟩ := hcut
      have H7 := Lib.hid k7
      clear k7 k3 k4 k5 k6 k8
      go_wp2_with fail
      refine (eqTurn_refl _ _ _).mono ?_
      rintro e w5 ⟨rfl, b5⟩
      have B5 := Lib.hid b5
      clear b5
      go_wp2_with fail
      go_ret
      exact ⟨rfl, H7.out.trans (B5.out.mono H7.out.size)⟩
end Go.Proofs.Ytoejigbeegkfoaa.fnExactComposeTurns
