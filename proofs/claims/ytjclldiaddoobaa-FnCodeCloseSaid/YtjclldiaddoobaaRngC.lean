/- Contracts of CodeOf and ValueOf in both packages. -/
import Derived.Test.YtjclldiaddoobaaRngO
import Derived.Test.YtjclldiaddoobaaFlInt
namespace Go.Proofs.Ytjclldiaddoobaa.rng
open Go.RowKit base Fl same
set_option linter.unusedVariables false

theorem num_of_order {x y : Nat} {o : Ordering} (h : S.order x y = some o) : num S x = true ∧ num S y = true := by
  constructor
  · cases hx : num S x with
    | true => rfl
    | false => rw [show S.order x y = none from ordNanL (k := .f32) hx y] at h; cases h
  · cases hy : num S y with
    | true => rfl
    | false => rw [show S.order x y = none from ordNanR (k := .f32) hy x] at h; cases h
theorem geB_iff {x y : Nat} : geB x y = true ↔ num S x = true ∧ num S y = true ∧ key S y ≤ key S x := by
  unfold geB
  constructor
  · intro h
    cases ho : S.order x y with
    | none => rw [ho] at h; cases h
    | some o =>
      obtain ⟨h1, h2⟩ := num_of_order ho
      refine ⟨h1, h2, ?_⟩
      rcases Int.lt_trichotomy (key S x) (key S y) with hk | hk | hk
      · rw [show S.order x y = some .lt from ordLt (k := .f32) h1 h2 hk] at h; cases h
      · omega
      · omega
  · rintro ⟨h1, h2, h3⟩
    rcases Int.lt_trichotomy (key S x) (key S y) with hk | hk | hk
    · omega
    · rw [show S.order x y = some .eq from ordEq (k := .f32) h1 h2 hk]; rfl
    · rw [show S.order x y = some .gt from ordGt (k := .f32) h1 h2 hk]; rfl
theorem gtB_iff {x y : Nat} : gtB x y = true ↔ num S x = true ∧ num S y = true ∧ key S y < key S x := by
  unfold gtB
  constructor
  · intro h
    cases ho : S.order x y with
    | none => rw [ho] at h; cases h
    | some o =>
      obtain ⟨h1, h2⟩ := num_of_order ho
      refine ⟨h1, h2, ?_⟩
      rcases Int.lt_trichotomy (key S x) (key S y) with hk | hk | hk
      · rw [show S.order x y = some .lt from ordLt (k := .f32) h1 h2 hk] at h; cases h
      · rw [show S.order x y = some .eq from ordEq (k := .f32) h1 h2 hk] at h; cases h
      · omega
  · rintro ⟨h1, h2, h3⟩
    rw [show S.order x y = some .gt from ordGt (k := .f32) h1 h2 h3]; rfl
theorem leB_iff {x y : Nat} : leB x y = true ↔ num S x = true ∧ num S y = true ∧ key S x ≤ key S y := by
  unfold leB
  constructor
  · intro h
    cases ho : S.order x y with
    | none => rw [ho] at h; cases h
    | some o =>
      obtain ⟨h1, h2⟩ := num_of_order ho
      refine ⟨h1, h2, ?_⟩
      rcases Int.lt_trichotomy (key S x) (key S y) with hk | hk | hk
      · omega
      · omega
      · rw [show S.order x y = some .gt from ordGt (k := .f32) h1 h2 hk] at h; cases h
  · rintro ⟨h1, h2, h3⟩
    rcases Int.lt_trichotomy (key S x) (key S y) with hk | hk | hk
    · rw [show S.order x y = some .lt from ordLt (k := .f32) h1 h2 hk]; rfl
    · rw [show S.order x y = some .eq from ordEq (k := .f32) h1 h2 hk]; rfl
    · omega

theorem amt_spec {x : Nat} (hx : x < 2 ^ 32) : num S (amt x) = num S x ∧ (num S x = true → key S (amt x) = (rg S x : Int)) := by
  unfold amt
  cases hn : num S x with
  | false =>
    rw [show S.order x 0 = none from ordNanL (k := .f32) hn 0]
    exact ⟨hn, fun h => by cases h⟩
  | true =>
    rcases Int.lt_trichotomy (key S x) 0 with h | h | h
    · rw [show S.order x 0 = some .lt from ordLt (k := .f32) hn (num_zero _) (by rw [key_zero]; exact h)]
      simp only [beq_self_eq_true, if_true]
      have hl : x < 2 ^ FloatKind.f32.format.width := hx
      refine ⟨(num_neg .f32 hl).trans hn, fun _ => ?_⟩
      rw [show key S (Op.negFloat .f32 x) = -key S x from key_negF .f32 hl]
      have := (key_neg (f := S)).1 h
      unfold key sg; rw [this.1]; simp
    · rw [show S.order x 0 = some .eq from ordEq (k := .f32) hn (num_zero _) (by rw [key_zero]; exact h)]
      refine ⟨hn, fun _ => ?_⟩
      have h0 := key_eq_zero.1 h
      show key S x = _
      rw [h, h0]; rfl
    · rw [show S.order x 0 = some .gt from ordGt (k := .f32) hn (num_zero _) (by rw [key_zero]; exact h)]
      refine ⟨hn, fun _ => ?_⟩
      have := (key_pos (f := S)).1 h
      show key S x = _
      unfold key sg; rw [this.1]; simp

theorem okA_facts {f d u : Nat} (h : okA f d u = true) : num S f = true ∧ num S d = true ∧ num S u = true ∧ 0 ≤ key S d ∧ key S d < key S u ∧ key S u ≤ key S f ∧ rg S f < S.infRung := by
  unfold okA at h
  simp only [Bool.and_eq_true] at h
  obtain ⟨⟨⟨⟨h1, h2⟩, h3⟩, h4⟩, h5⟩ := h
  obtain ⟨a1, _, a2⟩ := geB_iff.1 h1
  rw [key_zero] at a2
  obtain ⟨b1, _, b2⟩ := gtB_iff.1 h2
  obtain ⟨c1, _, c2⟩ := geB_iff.1 h3
  exact ⟨c1, a1, b1, a2, b2, c2, fin_iff.1 h5⟩
theorem held_of {f d u x : Nat} (hx : x < 2 ^ 32) (h : okA f d u = true) (hl : leB (amt x) f = true) : Held x f := by
  obtain ⟨h1, h2, h3, h4, h5, h6, h7⟩ := okA_facts h
  obtain ⟨l1, _, l2⟩ := leB_iff.1 hl
  obtain ⟨m1, m2⟩ := amt_spec hx
  rw [m2 (m1.symm.trans l1)] at l2
  have hp : 0 < key S f := by omega
  obtain ⟨p1, p2⟩ := key_pos.1 hp
  have e : key S f = (rg S f : Int) := by unfold key sg; rw [p1]; simp
  exact ⟨by omega, h7, p2, p1⟩

/-- what CodeOf tells -/
def codeOk (n : Nat) (F D U : Nat → Nat) (a : Int) (x : Nat) : Bool := okAt n F D U a && !overB n F D U a x
def codeV (n : Nat) (F D U : Nat → Nat) (a : Int) (x : Nat) : Int := if codeOk n F D U a x then codeF x (F a.toNat) else 0

theorem code_held {n : Nat} {F D U : Nat → Nat} {k x : Nat} (hx : x < 2 ^ 32) (hk : k < n) (h : okAt n F D U k = true) (ho : overB n F D U k x = false) : Held x (F k) := by
  have hg : goodB n F D U = true := by unfold okAt at h; exact (Bool.and_eq_true_iff.1 h).1
  have h1 := ((of_decide_eq_true hg).2 k hk).1
  unfold overB at ho
  rw [h] at ho
  exact held_of hx h1 (by simpa using ho)

set_option maxHeartbeats 2000000 in
theorem spec_CodeOf (A : Option Addr) (n c : Nat) (F D U : Nat → Nat) (a : Int) (x : Nat) (hx : x < 2 ^ 32) (w : World) (h : Rs w A n c F D U) :
    Calls Try.prog 29 #[.slice A n c, .int .i64 a, .float .f32 x] w fun e w' => e = .returned (.tuple #[.int .i64 (codeV n F D U a x), .bool (codeOk n F D U a x)]) ∧ Below w.heap.size w w' := by
  have hn : n ≤ 9223372036854775807 := Nat.le_trans h.1 h.2.1
  cases hg : goodB n F D U with
  | false =>
    have H0 : Hid (codeOk n F D U a x = false) := by show _ = _; unfold codeOk okAt; rw [hg]; rfl
    have H1 : Hid (codeV n F D U a x = 0) := by show _ = _; unfold codeV; rw [H0.out]; rfl
    go_enter Try.func29, Try.ntmps29
    go_wp2_with fail
    refine (spec_ok A n c F D U _ h).mono ?_
    rintro e w1 ⟨rfl, b1⟩
    rw [hg]
    go_wp2_with fail
    go_ret2
    exact ⟨by (rw [H1.out, H0.out] <;> rfl), b1⟩
  | true =>
  have e1 : RowKit.wrap64 ((n : Int) - 1) = (n : Int) - 1 := by unfold RowKit.wrap64; omega
  cases hi : inB n a with
  | false =>
    have H0 : Hid (codeOk n F D U a x = false) := by show _ = _; unfold codeOk okAt; rw [hg, hi]; rfl
    have H1 : Hid (codeV n F D U a x = 0) := by show _ = _; unfold codeV; rw [H0.out]; rfl
    go_enter Try.func29, Try.ntmps29
    go_wp2_with fail
    refine (spec_ok A n c F D U _ h).mono ?_
    rintro e w1 ⟨rfl, b1⟩
    rw [hg]
    go_wp2_with fail
    refine (inR.l01In_any _ _ _ _).mono ?_
    rintro e w2 ⟨rfl, rfl⟩
    rw [show decide (0 ≤ a ∧ a ≤ (n : Int) - 1) = false from hi]
    go_wp2_with fail
    go_ret2
    exact ⟨by (rw [H1.out, H0.out] <;> rfl), b1⟩
  | true =>
  have hok : okAt n F D U a = true := by unfold okAt; rw [hg, hi]; rfl
  cases ho : overB n F D U a x with
  | true =>
    have H0 : Hid (codeOk n F D U a x = false) := by show _ = _; unfold codeOk; rw [hok, ho]; rfl
    have H1 : Hid (codeV n F D U a x = 0) := by show _ = _; unfold codeV; rw [H0.out]; rfl
    go_enter Try.func29, Try.ntmps29
    go_wp2_with fail
    refine (spec_ok A n c F D U _ h).mono ?_
    rintro e w1 ⟨rfl, b1⟩
    rw [hg]
    go_wp2_with fail
    refine (inR.l01In_any _ _ _ _).mono ?_
    rintro e w2 ⟨rfl, rfl⟩
    rw [show decide (0 ≤ a ∧ a ≤ (n : Int) - 1) = true from hi]
    go_wp2_with fail
    refine (spec_Overload A n c F D U a x _ (h.below b1)).mono ?_
    rintro e w2 ⟨rfl, b2⟩
    rw [ho]
    go_wp2_with fail
    go_ret2
    exact ⟨by (rw [H1.out, H0.out] <;> rfl), b1.trans (b2.mono b1.size)⟩
  | false =>
    have hi' := hi
    obtain ⟨k, rfl, hk⟩ := inB_true hi'
    clear hi'
    have H0 : Hid (codeOk n F D U k x = true) := by show _ = _; unfold codeOk; rw [hok, ho]; rfl
    have H1 : Hid (codeV n F D U k x = codeF x (F k)) := by show _ = _; unfold codeV; rw [H0.out]; rfl
    have hheld := code_held hx hk hok ho
    obtain ⟨b, off, rfl, hlt, hcells⟩ := h.2.2 (by omega)
    have s1 := (hcells k hk).1.1
    clear hcells
    obtain ⟨r, r2, -, e1, e2, e3, -, -⟩ := code_spec hheld
    have q1 := fun W : World => run_float_arith (P := Try.prog) W .quo 29 .f32 x (F k) _ e1
    have q2 := fun W : World => run_float_arith (P := Try.prog) W .mul 29 .f32 _ 1191181824 _ e2
    have q3 := fun W : World => run_convert_float_int (P := Try.prog) W 29 3 .f32 .i64 _ _ (by rw [Try.underlying29]; rfl) Try.underlying3 e3
    clear e1 e2 e3 hheld
    go_enter Try.func29, Try.ntmps29
    go_wp2_with fail
    refine (spec_ok _ n c F D U _ h).mono ?_
    rintro e w1 ⟨rfl, b1⟩
    rw [hg]
    go_wp2_with fail
    refine (inR.l01In_any _ _ _ _).mono ?_
    rintro e w2 ⟨rfl, rfl⟩
    rw [show decide (0 ≤ (k : Int) ∧ (k : Int) ≤ (n : Int) - 1) = true from hi]
    go_wp2_with fail
    refine (spec_Overload _ n c F D U k x _ (h.below b1)).mono ?_
    rintro e w2 ⟨rfl, b2⟩
    rw [ho]
    have bb := b1.trans (b2.mono b1.size)
    have t1 := (bb.cell (p := ⟨b, off + k * 3, none⟩) hlt).trans s1
    have BB := Lib.hid bb
    clear s1 b1 b2 bb h hlt hi hg ho hok e1
    go_wp2_with fail
    go_ret2
    exact ⟨by (rw [H1.out, H0.out] <;> rfl), BB.out⟩

set_option maxHeartbeats 2000000 in
theorem impl_CodeOf (A : Option Addr) (n c : Nat) (F D U : Nat → Nat) (a : Int) (x : Nat) (hx : x < 2 ^ 32) (w : World) (h : Rs w A n c F D U) :
    Calls Try.prog 30 #[.slice A n c, .int .i64 a, .float .f32 x] w fun e w' => e = .returned (.tuple #[.int .i64 (codeV n F D U a x), .bool (codeOk n F D U a x)]) ∧ Below w.heap.size w w' := by
  have hn : n ≤ 9223372036854775807 := Nat.le_trans h.1 h.2.1
  cases hok : okAt n F D U a with
  | false =>
    have H0 : Hid (codeOk n F D U a x = false) := by show _ = _; unfold codeOk; rw [hok]; rfl
    have H1 : Hid (codeV n F D U a x = 0) := by show _ = _; unfold codeV; rw [H0.out]; rfl
    go_enter Try.func30, Try.ntmps30
    go_wp2_with fail
    refine (rangeOk_of A n c F D U a _ h hok).mono ?_
    rintro e w1 ⟨rfl, b1⟩
    go_wp2_with fail
    go_ret2
    exact ⟨by (rw [H1.out, H0.out] <;> rfl), b1⟩
  | true =>
  cases ho : overB n F D U a x with
  | true =>
    have H0 : Hid (codeOk n F D U a x = false) := by show _ = _; unfold codeOk; rw [hok, ho]; rfl
    have H1 : Hid (codeV n F D U a x = 0) := by show _ = _; unfold codeV; rw [H0.out]; rfl
    go_enter Try.func30, Try.ntmps30
    go_wp2_with fail
    refine (rangeOk_of A n c F D U a _ h hok).mono ?_
    rintro e w1 ⟨rfl, b1⟩
    go_wp2_with fail
    refine (impl_Overload A n c F D U a x _ (h.below b1)).mono ?_
    rintro e w2 ⟨rfl, b2⟩
    rw [ho]
    go_wp2_with fail
    go_ret2
    exact ⟨by (rw [H1.out, H0.out] <;> rfl), b1.trans (b2.mono b1.size)⟩
  | false =>
    have hi' := hok
    unfold okAt at hi'
    obtain ⟨k, rfl, hk⟩ := inB_true (Bool.and_eq_true_iff.1 hi').2
    clear hi'
    have H0 : Hid (codeOk n F D U k x = true) := by show _ = _; unfold codeOk; rw [hok, ho]; rfl
    have H1 : Hid (codeV n F D U k x = codeF x (F k)) := by show _ = _; unfold codeV; rw [H0.out]; rfl
    have hheld := code_held hx hk hok ho
    obtain ⟨b, off, rfl, hlt, hcells⟩ := h.2.2 (by omega)
    have s1 := (hcells k hk).1.1
    clear hcells
    obtain ⟨r, r2, -, e1, e2, e3, -, -⟩ := code_spec hheld
    have q1 := fun W : World => run_float_arith (P := Try.prog) W .quo 29 .f32 x (F k) _ e1
    have q2 := fun W : World => run_float_arith (P := Try.prog) W .mul 29 .f32 _ 1191181824 _ e2
    have q3 := fun W : World => run_convert_float_int (P := Try.prog) W 29 3 .f32 .i64 _ _ (by rw [Try.underlying29]; rfl) Try.underlying3 e3
    clear e1 e2 e3 hheld
    go_enter Try.func30, Try.ntmps30
    go_wp2_with fail
    refine (rangeOk_of _ n c F D U k _ h hok).mono ?_
    rintro e w1 ⟨rfl, b1⟩
    go_wp2_with fail
    refine (impl_Overload _ n c F D U k x _ (h.below b1)).mono ?_
    rintro e w2 ⟨rfl, b2⟩
    rw [ho]
    have bb := b1.trans (b2.mono b1.size)
    have t1 := (bb.cell (p := ⟨b, off + k * 3, none⟩) hlt).trans s1
    have BB := Lib.hid bb
    clear s1 b1 b2 bb h hlt ho hok
    go_wp2_with fail
    go_ret2
    exact ⟨by (rw [H1.out, H0.out] <;> rfl), BB.out⟩
end Go.Proofs.Ytjclldiaddoobaa.rng
