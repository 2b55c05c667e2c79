/- What operations on floats give in a run: sameness of words, infinities, signs; whatever a result is, it is a word. -/
import Derived.Test.YtpbklllmplimaaaDoorFl
import Derived.Test.YtpbklllmplimaaaDoorBase
import Derived.Deep.Draws
namespace Go.Proofs.YtpbklllmplimaaaDoor.same
open Go.RowKit Fl
set_option linter.unusedVariables false

theorem smB_num {a b : Nat} (ha : num D a = true) (hb : num D b = true) : smB a b = (a == b) := by simp [smB, ha, hb]
theorem smB_l {a b : Nat} (ha : num D a = false) : smB a b = !num D b := by simp [smB, ha]
theorem smB_r {a b : Nat} (hb : num D b = false) : smB a b = !num D a := by simp [smB, hb]

/-- equal keys: one word where the signs are one -/
theorem same_words {a b : Nat} (wa : a < 2 ^ 64) (wb : b < 2 ^ 64) (h : key D a = key D b) : (a == b) = (ng D a == ng D b) := by
  by_cases h0 : rg D a = 0
  · have h0' : rg D b = 0 := by
      rw [← key_eq_zero] at h0 ⊢; omega
    by_cases hs : ng D a = ng D b
    · have : a = b := word_inj D wa wb hs (by omega)
      subst this; simp
    · have : a ≠ b := by rintro rfl; exact hs rfl
      rw [beq_eq_false_iff_ne.2 this, beq_eq_false_iff_ne.2 hs]
  · have : a = b := word_of_key (f := D) wa wb h h0
    subst this; simp
theorem other_words {a b : Nat} (h : key D a ≠ key D b) : (a == b) = false := by
  simp only [beq_eq_false_iff_ne]; rintro rfl; exact h rfl

theorem one_fin : fin D 4607182418800017408 = true := by unfold fin rg; rw [D_W, D_I]; decide
theorem one_rg : rg D 4607182418800017408 ≠ 0 := by unfold rg; rw [D_W]; decide
theorem one_ng : ng D 4607182418800017408 = false := by unfold ng; rw [D_W]; decide
theorem inf_key_eq (s t : Bool) : (D.order (inf D s) (inf D t) == some .eq) = (s == t) := by
  have hI : 0 < D.infRung := by rw [D_I]; omega
  rw [ord (num_inf _ _) (num_inf _ _), key_inf, key_inf]
  generalize D.infRung = n at hI
  cases s <;> cases t <;> simp only [sg, Bool.false_eq_true, if_false, if_true]
  · rw [cmp_eq rfl]; rfl
  · rw [cmp_gt (by omega)]; rfl
  · rw [cmp_lt (by omega)]; rfl
  · rw [cmp_eq rfl]; rfl
theorem run_inv {P : Program} {a : Nat} (h0 : rg D a = 0) (t : TypeId) (w : World) : (binOp .quo t (.float .f64 4607182418800017408) (.float .f64 a)).run P w = .ok (.float .f64 (inf D (ng D a))) w := by
  have := div_zero (k := .f64) one_fin one_rg h0
  rw [one_ng, Bool.false_xor] at this
  exact run_float_arith w .quo t .f64 _ _ _ this

theorem inf_pos (s : Bool) : (D.order (inf D s) 0 == some .gt) = !s := by
  have hI : 0 < D.infRung := by rw [D_I]; omega
  rw [ord (num_inf _ _) (num_zero _), key_inf, key_zero]
  generalize D.infRung = n at hI
  cases s <;> simp only [sg, Bool.false_eq_true, if_false, if_true]
  · rw [cmp_gt (by omega)]; rfl
  · rw [cmp_lt (by omega)]; rfl

theorem one32_fin : fin S 1065353216 = true := by unfold fin rg; rw [S_W, S_I]; decide
theorem one32_rg : rg S 1065353216 ≠ 0 := by unfold rg; rw [S_W]; decide
theorem one32_ng : ng S 1065353216 = false := by unfold ng; rw [S_W]; decide
theorem run_inv32 {P : Program} {a : Nat} (h0 : rg S a = 0) (t : TypeId) (w : World) : (binOp .quo t (.float .f32 1065353216) (.float .f32 a)).run P w = .ok (.float .f32 (inf S (ng S a))) w := by
  have := div_zero (k := .f32) one32_fin one32_rg h0
  rw [one32_ng, Bool.false_xor] at this
  exact run_float_arith w .quo t .f32 _ _ _ this

theorem unary_neg_float (k : FloatKind) (b : Nat) : Op.unary .neg (.float k b) = pure (.float k (Op.negFloat k b)) := rfl
/-- a single with a sign, and whether the text is a sign -/
def sgnV (s : ByteArray) (x : Nat) : Nat := if (s.toList == [43]) = true then x else if (s.toList == [45]) = true then Op.negFloat .f32 x else 0
def sgnOk (s : ByteArray) : Bool := s.toList == [43] || s.toList == [45]

/-- the sign of a single, as text -/
def signTx (x : Nat) : ByteArray := if num S x then (if ng S x then ⟨#[45]⟩ else ⟨#[43]⟩) else ⟨#[]⟩

theorem lt_of_wf {k : FloatKind} {r : Nat} (h : (Lit.float k r).wf = true) : r < 2 ^ k.format.width := by
  cases k
  · have e : 2 ^ FloatKind.f32.format.width = 4294967296 := by decide
    rw [e]; simpa [Lit.wf] using h
  · have e : 2 ^ FloatKind.f64.format.width = 18446744073709551616 := by decide
    rw [e]; simpa [Lit.wf] using h

/-- whatever an operation on floats gives: some word, after some draws -/
theorem arith_at (P : Program) {op : BinOp} (hop : op = .add ∨ op = .sub ∨ op = .mul ∨ op = .quo) (k : FloatKind) (x y : Nat) (t : TypeId) (w : World) (n : Nat) :
    ∃ (z m : Nat), (binOp op t (.float k x) (.float k y)).run P (w.drewN n) = .ok (.float k z) (w.drewN m) ∧ z < 2 ^ k.format.width := by
  cases h : floatBits op k x y with
  | some r =>
    exact ⟨r, n, run_float_arith _ op t k x y r h, lt_of_wf (floatBits_wf h)⟩
  | none =>
    obtain ⟨nb, hnb, hrun⟩ := run_arith_nan P hop h t
    exact ⟨_, n + 1, hrun _, (hnb _).2⟩

/-- whatever a conversion between floats gives -/
theorem conv_at (P : Program) (s k : FloatKind) (x : Nat) (hx : x < 2 ^ s.format.width) (src dst : TypeId) (hs : (P.underlying src).isSome = true) (hd : P.underlying dst = some (.float k)) (w : World) (n : Nat) :
    ∃ (z m : Nat), (convert src dst (.float s x)).run P (w.drewN n) = .ok (.float k z) (w.drewN m) ∧ z < 2 ^ k.format.width := by
  cases h : floatToFloatBits s x k with
  | some r =>
    exact ⟨r, n, run_convert_float_float _ src dst s k x r hs hd h, lt_of_wf (floatToFloatBits_wf (wf_of_lt s x hx) h)⟩
  | none =>
    obtain ⟨u, hs'⟩ := Option.isSome_iff_exists.1 hs
    have hne : s ≠ k := by rintro rfl; simp [floatToFloatBits] at h
    unfold floatToFloatBits at h
    rw [if_neg hne] at h
    split at h
    · rename_i sg fr e
      refine ⟨_, n + 1, ?_, (cut_nanConv k x ((w.drewN n).tape (w.drewN n).drawn (.nanConv k x))).2⟩
      cases u <;> simp [convert, run_underlying hs', run_underlying hd, Conv.floatToFloat, hne, e, Question.forced] <;> rfl
    · cases h
    · rename_i sg m e hdec
      split at h
      · rename_i hinf
        refine ⟨Question.cut (.floatToFloat x) ((w.drewN n).tape (w.drewN n).drawn (.floatToFloat x)), n + 1, ?_, ?_⟩
        · cases u <;> simp [convert, run_underlying hs', run_underlying hd, Conv.floatToFloat, hne, hdec, hinf, Question.forced] <;> rfl
        · have h1 : Question.cut (.floatToFloat x) ((w.drewN n).tape (w.drewN n).drawn (.floatToFloat x)) < 2 ^ 32 := Nat.mod_lt _ (Nat.two_pow_pos 32)
          exact Nat.lt_of_lt_of_le h1 (by cases k <;> decide)
      · cases h

theorem drewN0 (w : World) : w.drewN 0 = w := rfl


/-- the same at a world that is a letter -/
theorem arith_w (P : Program) {op : BinOp} (hop : op = .add ∨ op = .sub ∨ op = .mul ∨ op = .quo) (k : FloatKind) (x y : Nat) (t : TypeId) (w : World) :
    ∃ (z m : Nat), (binOp op t (.float k x) (.float k y)).run P w = .ok (.float k z) (w.drewN m) ∧ z < 2 ^ k.format.width := arith_at P hop k x y t w 0
theorem conv_w (P : Program) (s k : FloatKind) (x : Nat) (hx : x < 2 ^ s.format.width) (src dst : TypeId) (hs : (P.underlying src).isSome = true) (hd : P.underlying dst = some (.float k)) (w : World) :
    ∃ (z m : Nat), (convert src dst (.float s x)).run P w = .ok (.float k z) (w.drewN m) ∧ z < 2 ^ k.format.width := conv_at P s k x hx src dst hs hd w 0

theorem negFloat_lt (k : FloatKind) {x : Nat} (hx : x < 2 ^ k.format.width) : Op.negFloat k x < 2 ^ k.format.width := by
  unfold Op.negFloat
  refine Nat.xor_lt_two_pow hx ?_
  exact Nat.pow_lt_pow_right (by omega) (by unfold Ieee.Format.width; omega)
theorem sgnV_lt (s : ByteArray) {x : Nat} (hx : x < 2 ^ 32) : sgnV s x < 2 ^ 32 := by
  unfold sgnV
  split
  · exact hx
  · split
    · exact negFloat_lt .f32 hx
    · omega


theorem below_of_or {W w w' : World} (h : Below W.heap.size W w) (e : w' = w ∨ w' = w.drew) : Below W.heap.size W w' := by
  rcases e with rfl | rfl
  · exact h
  · exact h.drew
end Go.Proofs.YtpbklllmplimaaaDoor.same
