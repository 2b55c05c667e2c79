/- Lists of ranges in memory; what the law's helpers do with them. -/
import Derived.Test.YtjclldiaddoobaaBase
import Derived.Test.YtjclldiaddoobaaSameFloat
import Derived.LoopTactic
import Derived.Laws.MakeOwn
import Derived.OwnWalk
namespace Go.Proofs.Ytjclldiaddoobaa.rng
open Go.RowKit base Fl same
set_option linter.unusedVariables false

theorem store_f (P : Program) (w : World) (a : Addr) (m : Mode) (k : FloatKind) (b : Nat) : (store a (.float k b) m).run P w = stored P w a (.float k b) m := run_store P w a _ m rfl
attribute [local go_sem] store_f

/-- the three cells of range j -/
def At3 (w : World) (b o : Nat) (f d u : Nat) : Prop :=
  w.cell? ⟨b, o, none⟩ = some (.float .f32 f) ∧ w.cell? ⟨b, o + 1, none⟩ = some (.float .f32 d) ∧ w.cell? ⟨b, o + 2, none⟩ = some (.float .f32 u)
/-- a list of ranges in memory -/
def Rs (w : World) (A : Option Addr) (n c : Nat) (F D U : Nat → Nat) : Prop :=
  n ≤ c ∧ c ≤ 9223372036854775807 ∧ (0 < n → ∃ b off, A = some ⟨b, off, none⟩ ∧ b < w.heap.size ∧ ∀ j, j < n →
    At3 w b (off + j * 3) (F j) (D j) (U j) ∧ F j < 2 ^ 32 ∧ D j < 2 ^ 32 ∧ U j < 2 ^ 32)

theorem Rs.below {w w' : World} {A : Option Addr} {n c : Nat} {F D U : Nat → Nat} (h : Rs w A n c F D U) (hb : Below w.heap.size w w') : Rs w' A n c F D U := by
  obtain ⟨h1, h2, h3⟩ := h
  refine ⟨h1, h2, fun hn => ?_⟩
  obtain ⟨b, off, e, hlt, hc⟩ := h3 hn
  refine ⟨b, off, e, Nat.lt_of_lt_of_le hlt hb.size, fun j hj => ?_⟩
  obtain ⟨⟨x, y, z⟩, l⟩ := hc j hj
  exact ⟨⟨(hb.cell (p := ⟨b, _, none⟩) hlt).trans x, (hb.cell (p := ⟨b, _, none⟩) hlt).trans y, (hb.cell (p := ⟨b, _, none⟩) hlt).trans z⟩, l⟩

theorem toRange (f d u : Nat) (w : World) : Calls Try.prog 46 #[.agg #[.float .f32 f, .float .f32 d, .float .f32 u]] w fun e w' => e = .returned (.agg #[.float .f32 f, .float .f32 d, .float .f32 u]) ∧ Below w.heap.size w w' := by
  go_enter Try.func46, Try.ntmps46
  go_wp2
  exact bodyPost_ret (v := .agg #[.float .f32 f, .float .f32 d, .float .f32 u]) (by simp [results, Try.results46, go_sem]) rfl ⟨rfl, (((Below.refl _ _).alloc (Nat.le_refl _) _).alloc (by simp) _).alloc (by simp; omega) _⟩

theorem szRangeS (A : Option Addr) (n c : Nat) (hc : n ≤ 9223372036854775807) (w : World) : Calls Try.prog 15 #[.slice A n c, .int .i64 1048576] w fun e w' => e = .returned (.int .i64 (if (n : Int) ≤ 1048576 then 1048576 - n else -1)) ∧ w = w' := by
  by_cases h : (n : Int) ≤ 1048576
  · rw [if_pos h]
    go_enter Try.func15, Try.ntmps15
    go_wp2
    go_ret
    exact ⟨rfl, rfl⟩
  · rw [if_neg h]
    go_enter Try.func15, Try.ntmps15
    go_wp2
    go_ret
    exact ⟨rfl, rfl⟩

/-- block g as the copy makes it: k ranges are laid, the rest is there -/
def Row (w : World) (g n k : Nat) (F D U : Nat → Nat) : Prop :=
  g < w.heap.size ∧ (∀ o, w.frozen? ⟨g, o, none⟩ = false) ∧ (∀ j, j < n → ∃ x y z, w.cell? ⟨g, j * 3, none⟩ = some x ∧ w.cell? ⟨g, j * 3 + 1, none⟩ = some y ∧ w.cell? ⟨g, j * 3 + 2, none⟩ = some z) ∧
    ∀ j, j < k → At3 w g (j * 3) (F j) (D j) (U j)

theorem Row.made (w : World) (n : Nat) (F D U : Nat → Nat) : Row (w.alloc (.cells (madeCells #[.float .f32 0, .float .f32 0, .float .f32 0] (n * 3)) 57)) w.heap.size n 0 F D U := by
  refine ⟨by simp, fun o => by simp, fun j hj => ?_, fun j hj => absurd hj (by omega)⟩
  have h : ∀ o, o < n * 3 → ∃ x, (w.alloc (.cells (madeCells #[.float .f32 0, .float .f32 0, .float .f32 0] (n * 3)) 57)).cell? ⟨w.heap.size, o, none⟩ = some x := by
    intro o ho
    rw [World.cell?_alloc_new]
    exact ⟨_, Array.getElem?_eq_getElem (by rw [size_madeCells]; exact ho)⟩
  obtain ⟨x, hx⟩ := h (j * 3) (by omega)
  obtain ⟨y, hy⟩ := h (j * 3 + 1) (by omega)
  obtain ⟨z, hz⟩ := h (j * 3 + 2) (by omega)
  exact ⟨x, y, z, hx, hy, hz⟩

/-- three stores at range k -/
def put3 (w : World) (g o : Nat) (f d u : Nat) : World := ((w.setCell ⟨g, o, none⟩ (.float .f32 f)).setCell ⟨g, o + 1, none⟩ (.float .f32 d)).setCell ⟨g, o + 2, none⟩ (.float .f32 u)
theorem put3_other {w : World} {g o p f d u : Nat} (h0 : p ≠ o) (h1 : p ≠ o + 1) (h2 : p ≠ o + 2) : (put3 w g o f d u).cell? ⟨g, p, none⟩ = w.cell? ⟨g, p, none⟩ := by
  unfold put3
  have e : ∀ q, p ≠ q → (⟨g, q, none⟩ : Addr) ≠ ⟨g, p, none⟩ := fun q h e => h (by injection e with _ e; exact e.symm)
  rw [World.cell?_setCell_other _ _ _ _ (e _ h2), World.cell?_setCell_other _ _ _ _ (e _ h1), World.cell?_setCell_other _ _ _ _ (e _ h0)]
theorem put3_at {w : World} {g o f d u : Nat} {x y z : Value} (h0 : w.cell? ⟨g, o, none⟩ = some x) (h1 : w.cell? ⟨g, o + 1, none⟩ = some y) (h2 : w.cell? ⟨g, o + 2, none⟩ = some z) : At3 (put3 w g o f d u) g o f d u := by
  have e1 : ∀ (w : World) v, (w.setCell ⟨g, o, none⟩ v).cell? ⟨g, o + 1, none⟩ = w.cell? ⟨g, o + 1, none⟩ := fun w v => World.cell?_setCell_other _ _ _ _ (by simp)
  have e2 : ∀ (w : World) v, (w.setCell ⟨g, o, none⟩ v).cell? ⟨g, o + 2, none⟩ = w.cell? ⟨g, o + 2, none⟩ := fun w v => World.cell?_setCell_other _ _ _ _ (by simp)
  have e3 : ∀ (w : World) v, (w.setCell ⟨g, o + 1, none⟩ v).cell? ⟨g, o + 2, none⟩ = w.cell? ⟨g, o + 2, none⟩ := fun w v => World.cell?_setCell_other _ _ _ _ (by simp)
  have e4 : ∀ (w : World) v, (w.setCell ⟨g, o + 1, none⟩ v).cell? ⟨g, o, none⟩ = w.cell? ⟨g, o, none⟩ := fun w v => World.cell?_setCell_other _ _ _ _ (by simp)
  have e5 : ∀ (w : World) v, (w.setCell ⟨g, o + 2, none⟩ v).cell? ⟨g, o, none⟩ = w.cell? ⟨g, o, none⟩ := fun w v => World.cell?_setCell_other _ _ _ _ (by simp)
  have e6 : ∀ (w : World) v, (w.setCell ⟨g, o + 2, none⟩ v).cell? ⟨g, o + 1, none⟩ = w.cell? ⟨g, o + 1, none⟩ := fun w v => World.cell?_setCell_other _ _ _ _ (by simp)
  unfold put3
  refine ⟨?_, ?_, ?_⟩
  · rw [e5, e4]; exact World.cell?_setCell_same _ _ _ h0
  · rw [e6]; exact World.cell?_setCell_same _ _ _ (by rw [e1]; exact h1)
  · exact World.cell?_setCell_same _ _ _ (by rw [e3, e2]; exact h2)
theorem put3_below {B : Nat} {w0 w : World} (h : Below B w0 w) {g o f d u : Nat} (hg : B ≤ g) : Below B w0 (put3 w g o f d u) := ((h.setCell (p := ⟨g, _, none⟩) hg _).setCell (p := ⟨g, _, none⟩) hg _).setCell (p := ⟨g, _, none⟩) hg _

theorem Row.step {w w1 : World} {g n k : Nat} {F D U : Nat → Nat} (h : Row w g n k F D U) (hb : Below w.heap.size w w1) (hk : k < n) : Row (put3 w1 g (k * 3) (F k) (D k) (U k)) g n (k + 1) F D U := by
  obtain ⟨h1, h2, h3, h4⟩ := h
  have c1 : ∀ o, w1.cell? ⟨g, o, none⟩ = w.cell? ⟨g, o, none⟩ := fun o => hb.cell (p := ⟨g, o, none⟩) h1
  refine ⟨?_, ?_, ?_, ?_⟩
  · have := hb.size; unfold put3; simp; omega
  · intro o; unfold put3; simp only [World.frozen?_setCell]; exact (hb.frozen (p := ⟨g, o, none⟩) h1).trans (h2 o)
  · intro j hj
    obtain ⟨x, y, z, hx, hy, hz⟩ := h3 j hj
    rw [← c1] at hx hy hz
    obtain ⟨x1, hx⟩ := cell?_setCell_some (p := ⟨g, k * 3, none⟩) (x := .float .f32 (F k)) hx
    obtain ⟨x1, hx⟩ := cell?_setCell_some (p := ⟨g, k * 3 + 1, none⟩) (x := .float .f32 (D k)) hx
    obtain ⟨x1, hx⟩ := cell?_setCell_some (p := ⟨g, k * 3 + 2, none⟩) (x := .float .f32 (U k)) hx
    obtain ⟨y1, hy⟩ := cell?_setCell_some (p := ⟨g, k * 3, none⟩) (x := .float .f32 (F k)) hy
    obtain ⟨y1, hy⟩ := cell?_setCell_some (p := ⟨g, k * 3 + 1, none⟩) (x := .float .f32 (D k)) hy
    obtain ⟨y1, hy⟩ := cell?_setCell_some (p := ⟨g, k * 3 + 2, none⟩) (x := .float .f32 (U k)) hy
    obtain ⟨z1, hz⟩ := cell?_setCell_some (p := ⟨g, k * 3, none⟩) (x := .float .f32 (F k)) hz
    obtain ⟨z1, hz⟩ := cell?_setCell_some (p := ⟨g, k * 3 + 1, none⟩) (x := .float .f32 (D k)) hz
    obtain ⟨z1, hz⟩ := cell?_setCell_some (p := ⟨g, k * 3 + 2, none⟩) (x := .float .f32 (U k)) hz
    exact ⟨_, _, _, hx, hy, hz⟩
  · intro j hj
    by_cases hjk : j = k
    · subst hjk
      obtain ⟨x, y, z, hx, hy, hz⟩ := h3 j hk
      exact put3_at ((c1 _).trans hx) ((c1 _).trans hy) ((c1 _).trans hz)
    · obtain ⟨a1, a2, a3⟩ := h4 j (by omega)
      exact ⟨by rw [put3_other (by omega) (by omega) (by omega), c1]; exact a1, by rw [put3_other (by omega) (by omega) (by omega), c1]; exact a2, by rw [put3_other (by omega) (by omega) (by omega), c1]; exact a3⟩

set_option maxHeartbeats 1000000 in
theorem toRangeS (A : Option Addr) (n c : Nat) (F D U : Nat → Nat) (w : World) (h : Rs w A n c F D U) (hn : n ≤ 1048576) :
    Calls Try.prog 17 #[.slice A n c] w fun e w' => ∃ g, e = .returned (.slice (some ⟨g, 0, none⟩) n n) ∧ Rs w' (some ⟨g, 0, none⟩) n n F D U ∧ Below w.heap.size w w' ∧ w.heap.size ≤ g ∧ g < w'.heap.size := by
  obtain ⟨i0, hi, hz0, hz1, hz2⟩ := info_parts (P := Try.prog) (e := 57) (z := .agg #[.float .f32 0, .float .f32 0, .float .f32 0]) (size := 3) (bytes := 12) (by kernel_rfl)
  have hmk : ∀ W : World, (Instr.makeSlice 25 (.int .i64 (n : Int)) (.int .i64 (n : Int))).run Try.prog W = .ok (.slice (some ⟨W.heap.size, 0, none⟩) n n) (W.alloc (.cells (madeCells #[.float .f32 0, .float .f32 0, .float .f32 0] (n * 3)) 57)) := by
    intro W
    have := run_make (P := Try.prog) W 25 57 i0 (.agg #[.float .f32 0, .float .f32 0, .float .f32 0]) Try.underlying25 hi hz0 .i64 .i64 n n (by omega) (by omega) (by rw [hz2]; omega) (by omega)
    rw [hz1] at this
    simpa [Value.cells] using this
  have hk := h.1
  rcases Nat.eq_zero_or_pos n with h0 | h0
  · subst h0
    have hmk0 : ∀ W : World, (Instr.makeSlice 25 (.int .i64 0) (.int .i64 0)).run Try.prog W = .ok (.slice (some ⟨W.heap.size, 0, none⟩) 0 0) (W.alloc (.cells (madeCells #[.float .f32 0, .float .f32 0, .float .f32 0] 0) 57)) := hmk
    clear hmk
    go_enter Try.func17, Try.ntmps17
    go_wp2_with fail
    go_loopw [4] (fun i wr => i = .int .i64 0 ∧ w.heap.size < wr.heap.size ∧ Below w.heap.size w wr) (fun _ _ => 0)
    case atStart => exact ⟨rfl, by simp, (Below.refl _ _).alloc (Nat.le_refl _) _⟩
    case round =>
      obtain ⟨rfl, hs, hb⟩ := hrel
      go_wp2_with fail
      go_ret
      exact ⟨_, rfl, ⟨Nat.le_refl _, by omega, fun h => absurd h (by omega)⟩, hb, Nat.le_refl _, hs⟩
  · obtain ⟨b, off, rfl, hlt, hcells⟩ := h.2.2 h0
    have H := Lib.hid h
    clear h
    go_enter Try.func17, Try.ntmps17
    go_wp2_with fail
    go_loopw [4] (fun i wr => ∃ k : Nat, k ≤ n ∧ i = .int .i64 k ∧ Row wr w.heap.size n k F D U ∧ Below w.heap.size w wr) (fun i _ => n - (intOf i).toNat)
    case atStart => exact ⟨0, Nat.zero_le _, rfl, Row.made w n F D U, (Below.refl _ _).alloc (Nat.le_refl _) _⟩
    case round =>
      obtain ⟨k, hk, rfl, hrow, hbel⟩ := hrel
      by_cases hkn : k < n
      · have hsrc := hcells k hkn
        obtain ⟨⟨s1, s2, s3⟩, _⟩ := hsrc
        have t1 := (hbel.cell (p := ⟨b, off + k * 3, none⟩) hlt).trans s1
        have t2 := (hbel.cell (p := ⟨b, off + k * 3 + 1, none⟩) hlt).trans s2
        have t3 := (hbel.cell (p := ⟨b, off + k * 3 + 2, none⟩) hlt).trans s3
        clear s1 s2 s3
        obtain ⟨x, y, z, g1, g2, g3⟩ := hrow.2.2.1 k hkn
        have hgl := hrow.1
        have hfz := hrow.2.1
        have HR := Lib.hid hrow
        have HB := Lib.hid hbel
        clear hrow hbel
        go_wp2_with fail
        refine (toRange (F k) (D k) (U k) _).mono ?_
        rintro e w1 ⟨rfl, b1⟩
        have f1 := (b1.frozen (p := ⟨w.heap.size, k * 3, none⟩) hgl).trans (hfz _)
        have f2 := (b1.frozen (p := ⟨w.heap.size, k * 3 + 1, none⟩) hgl).trans (hfz _)
        have f3 := (b1.frozen (p := ⟨w.heap.size, k * 3 + 2, none⟩) hgl).trans (hfz _)
        rw [← b1.cell (p := ⟨w.heap.size, _, none⟩) hgl] at g1 g2 g3
        have HB1 := Lib.hid b1
        clear b1 hfz t1 t2 t3
        go_wp2_with fail
        go_roundw
        case rel => exact ⟨k + 1, by omega, by go_num, HR.out.step HB1.out hkn, put3_below (HB.out.trans (HB1.out.mono HB.out.size)) (Nat.le_refl _)⟩
        case measure => simp [intOf]; omega
      · have : k = n := by omega
        subst this
        have HR := Lib.hid hrow
        have HB := Lib.hid hbel
        clear hrow hbel
        go_wp2_with fail
        go_ret
        have hlast := HR.out
        refine ⟨_, rfl, ⟨Nat.le_refl _, by omega, fun _ => ⟨_, _, rfl, hlast.1, fun j hj => ?_⟩⟩, HB.out, Nat.le_refl _, hlast.1⟩
        rw [Nat.zero_add]
        exact ⟨hlast.2.2.2 j hj, (hcells j hj).2⟩

end Go.Proofs.Ytjclldiaddoobaa.rng
