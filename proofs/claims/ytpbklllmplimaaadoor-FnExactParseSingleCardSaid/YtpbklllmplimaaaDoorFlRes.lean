/- What an operation on floats gives, told up to which NaN it is; products and differences turned round. -/
import Derived.Test.YtpbklllmplimaaaDoorFlRun
import Derived.Test.YtpbklllmplimaaaDoorNeg
namespace Go.Proofs.YtpbklllmplimaaaDoor.same
open Go.RowKit Fl Ieee
set_option linter.unusedVariables false

theorem out_num (f : Format) (s : Bool) (r : Nat) : num f (out f s r) = true := by
  rw [num_iff, out_rg]; exact Nat.min_le_right ..

theorem nearest_num (f : Format) (hp : 1 ≤ f.fractionBits) (s : Bool) (m : Nat) (e : Int) : num f (f.nearest s m e) = true := by
  obtain ⟨r, hr, _⟩ := nearest_spec f hp s m e
  rw [hr]; exact out_num f s r

theorem write_num (k : FloatKind) {d : Datum} (h : d.isNaN = false) : num k.format (k.format.write d) = true := by
  cases d with
  | number s m e => exact nearest_num k.format (fine k).p s m e
  | infinity s => exact num_inf k.format s
  | nan s t => cases h

theorem sum_noNaN {a b d : Datum} (h : a.sum b = some d) : d.isNaN = false := by
  cases a <;> cases b <;> simp only [Datum.sum] at h <;> first | (cases h; done) | (split at h <;> first | (cases h; rfl) | cases h) | (cases h; rfl)
theorem product_noNaN {a b d : Datum} (h : a.product b = some d) : d.isNaN = false := by
  cases a <;> cases b <;> simp only [Datum.product] at h <;> first | (cases h; done) | (split at h <;> first | (cases h; rfl) | cases h) | (cases h; rfl)
theorem quotient_noNaN {n : Nat} {a b d : Datum} (h : a.quotient n b = some d) : d.isNaN = false := by
  cases a <;> cases b <;> simp only [Datum.quotient] at h <;> first | (cases h; done) | (cases h; rfl) | skip
  split at h
  · split at h
    · cases h
    · cases h; rfl
  · cases h; rfl

theorem map_num (k : FloatKind) {o : Option Datum} {r : Nat} (ho : ∀ d, o = some d → d.isNaN = false) (h : o.map k.format.write = some r) : num k.format r = true := by
  cases o with
  | none => cases h
  | some d => cases h; exact write_num k (ho d rfl)

theorem arith_num {op : BinOp} {k : FloatKind} {x y r : Nat} (h : floatBits op k x y = some r) : num k.format r = true := by
  unfold floatBits at h
  split at h
  · exact map_num k (fun d hd => sum_noNaN hd) h
  · exact map_num k (fun d hd => sum_noNaN hd) h
  · exact map_num k (fun d hd => product_noNaN hd) h
  · exact map_num k (fun d hd => quotient_noNaN hd) h
  · cases h

/-- z is what is told, or some NaN where nothing is told -/
def Res (k : FloatKind) (o : Option Nat) (z : Nat) : Prop := (o = some z ∧ num k.format z = true) ∨ (o = none ∧ num k.format z = false)

theorem arith_res (P : Program) {op : BinOp} (hop : op = .add ∨ op = .sub ∨ op = .mul ∨ op = .quo) (k : FloatKind) (x y : Nat) (t : TypeId) (w : World) (n : Nat) :
    ∃ (z m : Nat), (binOp op t (.float k x) (.float k y)).run P (w.drewN n) = .ok (.float k z) (w.drewN m) ∧ Res k (floatBits op k x y) z ∧ z < 2 ^ k.format.width := by
  cases h : floatBits op k x y with
  | some r => exact ⟨r, n, run_float_arith _ op t k x y r h, Or.inl ⟨rfl, arith_num h⟩, lt_of_wf (floatBits_wf h)⟩
  | none =>
    obtain ⟨nb, hnb, hrun⟩ := run_arith_nan P hop h t
    exact ⟨_, n + 1, hrun _, Or.inr ⟨rfl, (hnb _).1⟩, (hnb _).2⟩
theorem arith_res0 (P : Program) {op : BinOp} (hop : op = .add ∨ op = .sub ∨ op = .mul ∨ op = .quo) (k : FloatKind) (x y : Nat) (t : TypeId) (w : World) :
    ∃ (z m : Nat), (binOp op t (.float k x) (.float k y)).run P w = .ok (.float k z) (w.drewN m) ∧ Res k (floatBits op k x y) z ∧ z < 2 ^ k.format.width := arith_res P hop k x y t w 0

theorem Res.bind2 {k : FloatKind} {op : BinOp} {o p : Option Nat} {x y z : Nat} (hx : Res k o x) (hy : Res k p y) (hz : Res k (floatBits op k x y) z) :
    Res k (o.bind fun a => p.bind fun b => floatBits op k a b) z := by
  rcases hx with ⟨rfl, nx⟩ | ⟨rfl, nx⟩
  · rcases hy with ⟨rfl, ny⟩ | ⟨rfl, ny⟩
    · exact hz
    · rw [arith_nan_r ny] at hz; exact hz
  · rw [arith_nan_l nx] at hz; exact hz

theorem mul_comm_bits (k : FloatKind) (x y : Nat) : floatBits .mul k x y = floatBits .mul k y x := by
  show k.format.mul x y = k.format.mul y x
  unfold Format.mul
  congr 1
  cases k.format.read x <;> cases k.format.read y <;> simp only [Datum.product, Bool.xor_comm, Nat.mul_comm, Int.add_comm]

/-- the sign of a word: 1, -1 or 0 -/
def sgnK (z : Nat) : Int := if num D z = true ∧ 0 < key D z then 1 else if num D z = true ∧ key D z < 0 then -1 else 0
def sgnO (o : Option Nat) : Int := match o with | some z => sgnK z | none => 0
theorem Res.sgn {o : Option Nat} {z : Nat} (h : Res .f64 o z) : sgnK z = sgnO o := by
  rcases h with ⟨rfl, _⟩ | ⟨rfl, n⟩
  · rfl
  · have n' : num D z = false := n
    simp [sgnK, sgnO, n']

theorem sgnK_inf (s : Bool) : sgnK (inf D s) = if s then -1 else 1 := by
  have hI : 0 < D.infRung := by rw [D_I]; omega
  unfold sgnK
  rw [num_inf, key_inf]
  generalize D.infRung = n at hI
  cases s
  · simp [sg, hI]
  · simp only [sg, if_true, true_and]; rw [if_neg (by omega), if_pos (by omega)]
theorem sgnK_zero {z : Nat} (h : rg D z = 0) : sgnK z = 0 := by
  have : key D z = 0 := key_eq_zero.2 h
  unfold sgnK
  rw [this]; simp
theorem sgnK_out (s : Bool) {r : Nat} (h : r ≠ 0) : sgnK (out D s r) = if s then -1 else 1 := by
  have hI : 0 < D.infRung := by rw [D_I]; omega
  have h1 : num D (out D s r) = true := out_num D s r
  have h2 : key D (out D s r) = sg s (min r D.infRung) := by unfold key; rw [out_rg, out_ng]
  have h3 : 0 < min r D.infRung := by omega
  unfold sgnK
  rw [h1, h2]
  generalize min r D.infRung = n at h3
  cases s
  · simp [sg, h3]
  · simp only [sg, if_true, true_and]; rw [if_neg (by omega), if_pos (by omega)]

theorem sub_turn (x y : Nat) : sgnO (floatBits .sub .f64 y x) = -sgnO (floatBits .sub .f64 x y) := by
  cases hx : num D x with
  | false =>
    rw [show floatBits .sub .f64 y x = none from arith_nan_r hx y, show floatBits .sub .f64 x y = none from arith_nan_l hx y]; rfl
  | true =>
  cases hy : num D y with
  | false =>
    rw [show floatBits .sub .f64 y x = none from arith_nan_l hy x, show floatBits .sub .f64 x y = none from arith_nan_r hy x]; rfl
  | true =>
  show sgnO (D.sub y x) = -sgnO (D.sub x y)
  by_cases fx : rg D x < D.infRung
  · by_cases fy : rg D y < D.infRung
    · obtain ⟨r, e1, R1⟩ := sub_fin (f := D) (fine .f64) fx fy
      obtain ⟨r', e2, R2⟩ := sub_fin (f := D) (fine .f64) fy fx
      have hr : r' = r := R2.unique R1 (by omega) (by omega) (by omega)
      subst hr
      rw [e1, e2]
      simp only [sgnO]
      by_cases hd : sv D x - sv D y = 0
      · have hr0 : r' = 0 := by
          refine R1.eq_of (by omega) ?_
          rw [mg_zero]; omega
        subst hr0
        rw [sgnK_zero (by rw [out_rg]; simp), sgnK_zero (by rw [out_rg]; simp)]; rfl
      · have hr0 : r' ≠ 0 := by
          intro h0
          subst h0
          -- a difference is at least one unit of the least place
          have h1 := R1.up
          have h2 : mg D (0 + 1) = 1 := by unfold mg; rw [if_pos (by rw [D_B]; omega)]
          rw [mg_zero, h2] at h1
          omega
        rw [sgnK_out _ hr0, sgnK_out _ hr0, if_neg hd, if_neg (show ¬ sv D y - sv D x = 0 by omega)]
        by_cases hlt : sv D x - sv D y < 0
        · have : decide (sv D x - sv D y < 0) = true := by simpa using hlt
          have h' : decide (sv D y - sv D x < 0) = false := by simp; omega
          rw [this, h']; rfl
        · have : decide (sv D x - sv D y < 0) = false := by simpa using hlt
          have h' : decide (sv D y - sv D x < 0) = true := by simp; omega
          rw [this, h']; rfl
    · have hyi : rg D y = D.infRung := by have := num_iff.1 hy; omega
      obtain ⟨m, i, e1, _⟩ := read_fin D fx
      have e2 := read_inf D (fine .f64).e hyi
      unfold Format.sub
      rw [e1, e2]
      simp only [Datum.opposite, Datum.sum, Option.map_some, Format.write, sgnO]
      rw [show D.word (ng D y) D.infRung = inf D (ng D y) from rfl, show D.word (!ng D y) D.infRung = inf D (!ng D y) from rfl, sgnK_inf, sgnK_inf]
      cases ng D y <;> rfl
  · have hxi : rg D x = D.infRung := by have := num_iff.1 hx; omega
    have e1 := read_inf D (fine .f64).e hxi
    by_cases fy : rg D y < D.infRung
    · obtain ⟨m, i, e2, _⟩ := read_fin D fy
      unfold Format.sub
      rw [e1, e2]
      simp only [Datum.opposite, Datum.sum, Option.map_some, Format.write, sgnO]
      rw [show D.word (ng D x) D.infRung = inf D (ng D x) from rfl, show D.word (!ng D x) D.infRung = inf D (!ng D x) from rfl, sgnK_inf, sgnK_inf]
      cases ng D x <;> rfl
    · have hyi : rg D y = D.infRung := by have := num_iff.1 hy; omega
      have e2 := read_inf D (fine .f64).e hyi
      unfold Format.sub
      rw [e1, e2]
      simp only [Datum.opposite, Datum.sum]
      cases h1 : ng D x <;> cases h2 : ng D y
      · rfl
      · simp only [Bool.not_true, Bool.not_false, if_true, Option.map_some, Format.write, sgnO]
        rw [show D.word true D.infRung = inf D true from rfl, show D.word false D.infRung = inf D false from rfl, sgnK_inf, sgnK_inf]; rfl
      · simp only [Bool.not_true, Bool.not_false, if_true, Option.map_some, Format.write, sgnO]
        rw [show D.word true D.infRung = inf D true from rfl, show D.word false D.infRung = inf D false from rfl, sgnK_inf, sgnK_inf]; rfl
      · rfl

/-- a difference of a word and itself has no sign -/
theorem sub_self_sgn (x : Nat) : sgnO (floatBits .sub .f64 x x) = 0 := by
  have := sub_turn x x
  omega
end Go.Proofs.YtpbklllmplimaaaDoor.same
