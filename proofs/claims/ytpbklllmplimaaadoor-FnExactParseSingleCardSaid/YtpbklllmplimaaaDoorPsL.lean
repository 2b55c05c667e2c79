/- What ParseSingle makes of a text: the plain law. -/
import Derived.Test.YtpbklllmplimaaaDoorFs
import Derived.Test.YtpbklllmplimaaaDoorMk
import Derived.Test.YtpbklllmplimaaaDoorNumL
namespace Go.Proofs.YtpbklllmplimaaaDoor.same
open Go.RowKit Fl base fmt pu
set_option linter.unusedVariables false

def tls (s : ByteArray) : List UInt8 := s.data.toList.tail
def sg1 (s : ByteArray) : ByteArray := s.extract 0 1
/-- the part ahead of the 'p'; the part behind it -/
def pa (t : List UInt8) : List UInt8 := t.takeWhile (fun b => b != 112)
def pb (t : List UInt8) : List UInt8 := (t.dropWhile (fun b => b != 112)).tail
def ngB (b : List UInt8) : Bool := Lib.hasPrefix b [45]
def absB (b : List UInt8) : List UInt8 := if ngB b then b.tail else b
def exB (b : List UInt8) : Int := if ngB b then -(puV (absB b) : Int) else (puV (absB b) : Int)
noncomputable def coreV0 (s : ByteArray) : Nat := mkV (sg1 s) (puV (pa (tls s)) : Nat) (exB (pb (tls s)))
noncomputable def fsB (x : Nat) (l : List UInt8) : Bool := @decide (Fs x l) (Classical.propDecidable _)
theorem fsB_yes {x : Nat} {l : List UInt8} (h : Fs x l) : fsB x l = true := by unfold fsB; exact @decide_eq_true _ (Classical.propDecidable _) h
theorem fsB_no {x : Nat} {l : List UInt8} (h : ¬ Fs x l) : fsB x l = false := by unfold fsB; exact @decide_eq_false _ (Classical.propDecidable _) h
theorem fsB_iff {x : Nat} {l : List UInt8} (h : fsB x l = true) : Fs x l := by
  unfold fsB at h; exact @of_decide_eq_true _ (Classical.propDecidable _) h
noncomputable def coreOk (s : ByteArray) : Bool := puOk (pa (tls s)) && puOk (absB (pb (tls s))) && mkOk (sg1 s) (puV (pa (tls s)) : Nat) (exB (pb (tls s))) && fsB (coreV0 s) s.data.toList
noncomputable def coreV (s : ByteArray) : Nat := if coreOk s then coreV0 s else 0
def CoreIs (s : ByteArray) (v : Nat) (b : Bool) : Prop := coreV s = v ∧ coreOk s = b
theorem core_no {s : ByteArray} (h : coreOk s = false) : CoreIs s 0 false := ⟨by unfold coreV; rw [h]; rfl, h⟩
theorem core_a {s : ByteArray} (h : puOk (pa (tls s)) = false) : CoreIs s 0 false := core_no (by unfold coreOk; rw [h]; rfl)
theorem core_b {s : ByteArray} (h : puOk (absB (pb (tls s))) = false) : CoreIs s 0 false := core_no (by unfold coreOk; rw [h]; simp)
theorem core_m {s : ByteArray} (h : mkOk (sg1 s) (puV (pa (tls s)) : Nat) (exB (pb (tls s))) = false) : CoreIs s 0 false := core_no (by unfold coreOk; rw [h]; simp)
theorem core_f {s : ByteArray} (h : ¬ Fs (coreV0 s) s.data.toList) : CoreIs s 0 false := core_no (by unfold coreOk; rw [fsB_no h]; simp)
theorem core_yes {s : ByteArray} (h1 : puOk (pa (tls s)) = true) (h2 : puOk (absB (pb (tls s))) = true) (h3 : mkOk (sg1 s) (puV (pa (tls s)) : Nat) (exB (pb (tls s))) = true) (h4 : Fs (coreV0 s) s.data.toList) : CoreIs s (coreV0 s) true := by
  have : coreOk s = true := by unfold coreOk; rw [h1, h2, h3, fsB_yes h4]; rfl
  exact ⟨by unfold coreV; rw [this]; rfl, this⟩
theorem core_fs {s : ByteArray} (h : coreOk s = true) : Fs (coreV0 s) s.data.toList := by
  unfold coreOk at h
  simp only [Bool.and_eq_true] at h
  exact fsB_iff h.2

theorem pu_bound (l : List UInt8) : puV l ≤ 1000000000 := by
  unfold puV
  split
  · rename_i h
    unfold puOk at h
    rw [Bool.and_eq_true, Bool.and_eq_true] at h
    exact of_decide_eq_true h.1.2
  · omega
theorem mkV_lt (s : ByteArray) (m e : Int) : mkV s m e < 2 ^ 32 := by
  unfold mkV
  split
  · rename_i h
    unfold mkOk at h
    rw [Bool.and_eq_true] at h
    have h1 := of_decide_eq_true h.2
    rw [S_I] at h1
    exact sgnV_lt s (by omega)
  · omega
theorem ng_cons {c : UInt8} {r : List UInt8} : ngB (c :: r) = (c == 45) := by
  unfold ngB Lib.hasPrefix
  simp only [List.isPrefixOf, Bool.and_true]
  rw [Bool.eq_iff_iff, beq_iff_eq, beq_iff_eq]; exact ⟨fun h => h.symm, fun h => h.symm⟩
/-- no text of a single is long -/
theorem itoa_small {n : Int} (h0 : 0 ≤ n) (h1 : n ≤ 16777215) : (Lib.itoa n).length ≤ 8 := by
  obtain ⟨N, rfl⟩ : ∃ N : Nat, n = N := ⟨n.toNat, by omega⟩
  rw [Lib.itoa_nonneg, Lib.decDigits_length]; exact nDigits_le 8 N (by omega) (by omega)
theorem itoa_exp {n : Int} (h0 : -149 ≤ n) (h1 : n ≤ 127) : (Lib.itoa n).length ≤ 4 := by
  by_cases h : n < 0
  · have e : Lib.itoa n = 45 :: Lib.decDigits n.natAbs := by unfold Lib.itoa; rw [if_pos h]
    rw [e, List.length_cons, Lib.decDigits_length]
    have := nDigits_le 3 n.natAbs (by omega) (by omega)
    omega
  · have e : Lib.itoa n = Lib.decDigits n.toNat := by unfold Lib.itoa; rw [if_neg h]
    rw [e, Lib.decDigits_length]
    have := nDigits_le 3 n.toNat (by omega) (by omega)
    omega
theorem fs_len {x : Nat} {l : List UInt8} (h : Fs x l) : l.length ≤ 14 := by
  cases h with
  | nan => simp
  | inf => simp
  | zero => simp
  | yes hf h0 m e hs =>
    obtain ⟨m0, m1, e0, e1⟩ := split_range hs
    have h1 := itoa_small m0 m1
    have h2 := itoa_exp e0 e1
    simp only [List.length_cons, List.length_append]; omega
theorem core_long {s : ByteArray} (h : 20 < s.size) : CoreIs s 0 false := core_f (fun hf => by have := fs_len hf; rw [size_len] at this; omega)

/-- what ParseSingle tells -/
inductive Ps (s : ByteArray) : Nat → Bool → Prop
  | nan (h : s.data.toList = [110, 97, 110]) (v : Nat) (hv : num S v = false) (hl : v < 2 ^ 32) : Ps s v true
  | short (h : s.data.toList ≠ [110, 97, 110]) (h2 : s.size < 2) : Ps s 0 false
  | inf (h : s.data.toList ≠ [110, 97, 110]) (h2 : 2 ≤ s.size) (hi : tls s = [105, 110, 102]) : Ps s (sgnV (sg1 s) 2139095040) (sgnOk (sg1 s))
  | zero (h : s.data.toList ≠ [110, 97, 110]) (h2 : 2 ≤ s.size) (hz : tls s = [48]) : Ps s (sgnV (sg1 s) 0) (sgnOk (sg1 s))
  | core (h : s.data.toList ≠ [110, 97, 110]) (h2 : 2 ≤ s.size) (hi : tls s ≠ [105, 110, 102]) (hz : tls s ≠ [48]) (v : Nat) (b : Bool) (hc : CoreIs s v b) : Ps s v b
theorem Ps.unique {s : ByteArray} {v v' : Nat} {b b' : Bool} (h : Ps s v b) (h' : Ps s v' b') : b = b' ∧ (v = v' ∨ (num S v = false ∧ num S v' = false)) := by
  cases h with
  | nan h v hv hl =>
    cases h' with
    | nan _ _ hv' _ => exact ⟨rfl, Or.inr ⟨hv, hv'⟩⟩
    | short h2 => exact absurd h h2
    | inf h2 => exact absurd h h2
    | zero h2 => exact absurd h h2
    | core h2 => exact absurd h h2
  | short h h2 =>
    cases h' with
    | nan h3 => exact absurd h3 h
    | short => exact ⟨rfl, Or.inl rfl⟩
    | inf _ h3 => omega
    | zero _ h3 => omega
    | core _ h3 => omega
  | inf h h2 hi =>
    cases h' with
    | nan h3 => exact absurd h3 h
    | short _ h3 => omega
    | inf => exact ⟨rfl, Or.inl rfl⟩
    | zero _ _ h3 => rw [hi] at h3; cases h3
    | core _ _ h3 => exact absurd hi h3
  | zero h h2 hz =>
    cases h' with
    | nan h3 => exact absurd h3 h
    | short _ h3 => omega
    | inf _ _ h3 => rw [hz] at h3; cases h3
    | zero => exact ⟨rfl, Or.inl rfl⟩
    | core _ _ _ h3 => exact absurd hz h3
  | core h h2 hi hz v b hc =>
    cases h' with
    | nan h3 => exact absurd h3 h
    | short _ h3 => omega
    | inf _ _ h3 => exact absurd h3 hi
    | zero _ _ h3 => exact absurd h3 hz
    | core _ _ _ _ v' b' hc' =>
      obtain ⟨rfl, rfl⟩ := hc
      obtain ⟨rfl, rfl⟩ := hc'
      exact ⟨rfl, Or.inl rfl⟩
def PsE (s : ByteArray) (w : World) (en : Ending) (w' : World) : Prop := ∃ (v : Nat) (b : Bool), Ps s v b ∧ en = .returned (.tuple #[.float .f32 v, .bool b]) ∧ Below w.heap.size w w'

/- the parts, at the place of the 'p' -/
theorem p_none {t : List UInt8} (h : ∀ b ∈ t, b ≠ 112) : pa t = t ∧ pb t = [] := by
  unfold pa pb
  induction t with
  | nil => exact ⟨rfl, rfl⟩
  | cons b r ih =>
    have hb : (b != 112) = true := by simpa using h b (List.mem_cons_self ..)
    obtain ⟨h1, h2⟩ := ih (fun x hx => h x (List.mem_cons_of_mem _ hx))
    rw [List.takeWhile_cons, List.dropWhile_cons, if_pos hb, if_pos hb, h1]
    exact ⟨rfl, h2⟩
theorem p_at {t : List UInt8} {q : Nat} (h : t[q]? = some 112) (hb : ∀ b ∈ t.take q, b ≠ 112) : pa t = t.take q ∧ pb t = t.drop (q + 1) := by
  unfold pa pb
  induction t generalizing q with
  | nil => simp at h
  | cons b r ih =>
    cases q with
    | zero =>
      simp at h
      subst h
      rw [List.takeWhile_cons, List.dropWhile_cons, if_neg (by simp), if_neg (by simp)]
      simp
    | succ q =>
      have hb0 : (b != 112) = true := by simpa using hb b (by simp)
      obtain ⟨h1, h2⟩ := ih (q := q) (by simpa using h) (fun x hx => hb x (by simp [hx]))
      rw [List.takeWhile_cons, List.dropWhile_cons, if_pos hb0, if_pos hb0, h1, h2]
      simp
theorem puOk_nil : puOk (absB []) = false := no_nil
theorem tls_len (s : ByteArray) : (tls s).length = s.size - 1 := by unfold tls; rw [List.length_tail]; rfl
theorem tls_get (s : ByteArray) (t : Nat) (h : t + 1 < s.size) : (tls s)[t]? = some s[t + 1] := by
  unfold tls
  rw [List.getElem?_tail, List.getElem?_eq_getElem (by simpa using h)]; rfl
theorem ext_tls (s : ByteArray) : (s.extract 1 s.size).data.toList = tls s := by
  rw [Lib.extract_to_end]; unfold tls; rw [List.drop_one]
theorem ext_a (s : ByteArray) (k : Nat) : (s.extract 1 (k + 1)).data.toList = (tls s).take k := by
  rw [Lib.extract_data]; unfold tls; rw [List.drop_one]; rfl
theorem ext_b (s : ByteArray) (k : Nat) : (s.extract (k + 1 + 1) s.size).data.toList = (tls s).drop (k + 1) := by
  rw [Lib.extract_to_end]; unfold tls; rw [← List.drop_one, List.drop_drop]; congr 1; omega
end Go.Proofs.YtpbklllmplimaaaDoor.same
