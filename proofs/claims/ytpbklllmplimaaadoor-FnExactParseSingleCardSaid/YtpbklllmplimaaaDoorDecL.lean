/- Decimal figures in a list of bytes; a text of a whole part and a part behind the point: the plain law. -/
import Derived.Test.YtpbklllmplimaaaDoorBase
namespace Go.Proofs.YtpbklllmplimaaaDoor.dec
set_option linter.unusedVariables false

def isDig (b : UInt8) : Bool := decide (48 ≤ b.toNat) && decide (b.toNat ≤ 57)
theorem isDig_iff (b : UInt8) : isDig b = true ↔ 48 ≤ b.toNat ∧ b.toNat ≤ 57 := by unfold isDig; simp
/-- the number that the figures tell -/
def dv (l : List UInt8) : Nat := l.foldl (fun a b => 10 * a + (b.toNat - 48)) 0
theorem dv_nil : dv [] = 0 := rfl
theorem dv_snoc (l : List UInt8) (b : UInt8) : dv (l ++ [b]) = 10 * dv l + (b.toNat - 48) := by simp [dv]
theorem dv_lt (l : List UInt8) (h : l.all isDig = true) : dv l < 10 ^ l.length := by
  have key : ∀ (l : List UInt8) (a k : Nat), l.all isDig = true → a < 10 ^ k → l.foldl (fun a b => 10 * a + (b.toNat - 48)) a < 10 ^ (k + l.length) := by
    intro l
    induction l with
    | nil => intro a k _ h; simpa using h
    | cons b l ih =>
      intro a k hl h
      simp only [List.all_cons, Bool.and_eq_true] at hl
      have hb := (isDig_iff b).1 hl.1
      simp only [List.foldl_cons, List.length_cons]
      have := ih (10 * a + (b.toNat - 48)) (k + 1) hl.2 (by rw [Nat.pow_succ]; omega)
      rw [show k + 1 + l.length = k + (l.length + 1) by omega] at this
      exact this
  have := key l 0 0 h (by simp)
  simpa [dv] using this

/-- the two parts of a text behind its sign: the whole part; the part behind the point, if there is a point -/
def wh (r : List UInt8) : List UInt8 := r.takeWhile (fun b => b != 46)
def tl (r : List UInt8) : List UInt8 := r.dropWhile (fun b => b != 46)
/-- the figures; how many stand behind the point -/
def figs (r : List UInt8) : List UInt8 := wh r ++ (tl r).tail
def good (r : List UInt8) : Bool := (wh r != []) && (tl r == [] || (tl r).tail != []) && (figs r).all isDig && decide ((figs r).length ≤ 15)

theorem dig_ne {b : UInt8} (h : isDig b = true) : (b != 46) = true := by
  have := (isDig_iff b).1 h
  simp only [bne_iff_ne, ne_eq]
  rintro rfl
  simp at this
theorem parts_none {r : List UInt8} (h : ∀ b ∈ r, b ≠ 46) : wh r = r ∧ tl r = [] := by
  unfold wh tl
  induction r with
  | nil => exact ⟨rfl, rfl⟩
  | cons b r ih =>
    have hb : (b != 46) = true := by simpa using h b (List.mem_cons_self ..)
    obtain ⟨h1, h2⟩ := ih (fun x hx => h x (List.mem_cons_of_mem _ hx))
    rw [List.takeWhile_cons, List.dropWhile_cons, if_pos hb, if_pos hb, h1, h2]
    exact ⟨rfl, rfl⟩
theorem parts_at {r : List UInt8} {q : Nat} (h : r[q]? = some 46) (hb : ∀ b ∈ r.take q, b ≠ 46) : wh r = r.take q ∧ tl r = 46 :: r.drop (q + 1) := by
  unfold wh tl
  induction r generalizing q with
  | nil => simp at h
  | cons b r ih =>
    cases q with
    | zero =>
      simp at h
      subst h
      rw [List.takeWhile_cons, List.dropWhile_cons, if_neg (by simp), if_neg (by simp)]
      simp
    | succ q =>
      have hb0 : (b != 46) = true := by simpa using hb b (by simp)
      obtain ⟨h1, h2⟩ := ih (q := q) (by simpa using h) (fun x hx => hb x (by simp [hx]))
      rw [List.takeWhile_cons, List.dropWhile_cons, if_pos hb0, if_pos hb0, h1, h2]
      simp
theorem all_ne {l : List UInt8} (h : l.all isDig = true) : ∀ b ∈ l, b ≠ 46 := by
  intro b hb
  have := dig_ne (List.all_eq_true.1 h b hb)
  simpa using this
theorem all_snoc {l : List UInt8} {b : UInt8} (h : l.all isDig = true) (hb : isDig b = true) : (l ++ [b]).all isDig = true := by
  rw [List.all_append, h]; simp [hb]

/-- no point: all are figures -/
theorem good_none {r : List UInt8} (h : r.all isDig = true) : good r = (decide (r ≠ []) && decide (r.length ≤ 15)) ∧ figs r = r ∧ (tl r).tail = [] := by
  obtain ⟨h1, h2⟩ := parts_none (all_ne h)
  have h3 : figs r = r := by unfold figs; rw [h1, h2]; simp
  refine ⟨?_, h3, by rw [h2]; rfl⟩
  unfold good
  rw [h3, h1, h2, h]
  cases r <;> simp
/-- a point at q, figures ahead of it -/
theorem good_at {r : List UInt8} {q : Nat} (h : r[q]? = some 46) (hb : (r.take q).all isDig = true) :
    good r = (decide (1 ≤ q) && decide (q + 1 < r.length) && (r.drop (q + 1)).all isDig && decide (r.length ≤ 16)) ∧ figs r = r.take q ++ r.drop (q + 1) ∧ (tl r).tail = r.drop (q + 1) := by
  obtain ⟨h1, h2⟩ := parts_at h (all_ne hb)
  have hq : q < r.length := (List.getElem?_eq_some_iff.1 h).1
  have h3 : figs r = r.take q ++ r.drop (q + 1) := by unfold figs; rw [h1, h2]; simp
  refine ⟨?_, h3, by rw [h2]; rfl⟩
  unfold good
  rw [h3, h1, h2, List.all_append, hb]
  have e1 : (r.take q != []) = decide (1 ≤ q) := by
    cases q with
    | zero => simp
    | succ q => cases r with
      | nil => simp at hq
      | cons b r => simp
  have e2 : (r.drop (q + 1) != []) = decide (q + 1 < r.length) := by
    by_cases hlt : q + 1 < r.length
    · rw [decide_eq_true hlt]
      simp only [bne_iff_ne, ne_eq]
      intro h0
      have := congrArg List.length h0
      simp at this; omega
    · rw [decide_eq_false hlt, List.drop_eq_nil_of_le (by omega)]; rfl
  have e3 : (r.take q ++ r.drop (q + 1)).length = r.length - 1 := by simp; omega
  rw [e1, e3]
  simp only [List.tail_cons, e2]
  have e4 : decide (r.length - 1 ≤ 15) = decide (r.length ≤ 16) := by congr 1; apply propext; omega
  rw [e4]
  simp [Bool.and_assoc]
/-- a byte that is no figure and no point -/
theorem good_bad {r : List UInt8} {t : Nat} {c : UInt8} (h : r[t]? = some c) (h1 : isDig c = false) (h2 : c ≠ 46) : good r = false := by
  cases hg : good r with
  | false => rfl
  | true =>
    exfalso
    unfold good at hg
    have hall := (Bool.and_eq_true_iff.1 (Bool.and_eq_true_iff.1 hg).1).2
    have hc : c ∈ r := List.mem_of_getElem? h
    have hr : r = wh r ++ tl r := by unfold wh tl; exact (List.takeWhile_append_dropWhile).symm
    rw [hr] at hc
    have hm : c ∈ figs r := by
      unfold figs
      rcases List.mem_append.1 hc with h' | h'
      · exact List.mem_append_left _ h'
      · refine List.mem_append_right _ ?_
        cases ht : tl r with
        | nil => rw [ht] at h'; cases h'
        | cons b u =>
          rw [ht] at h'
          rcases List.mem_cons.1 h' with rfl | h''
          · exfalso
            have hh := List.head_dropWhile_not (p := fun b => b != 46) (l := r) (by
              show r.dropWhile _ ≠ []
              show tl r ≠ []
              rw [ht]; simp)
            have e : (r.dropWhile (fun b => b != 46)).head (by show tl r ≠ []; rw [ht]; simp) = c := by
              show (tl r).head _ = c
              simp [ht]
            rw [e] at hh
            simp at hh
            exact h2 hh
          · exact h''
    have := List.all_eq_true.1 hall c hm
    rw [h1] at this; cases this
theorem good_len {r : List UInt8} (h : good r = true) : 1 ≤ r.length ∧ r.length ≤ 16 := by
  unfold good at h
  have h1 := of_decide_eq_true (Bool.and_eq_true_iff.1 h).2
  have hw := (Bool.and_eq_true_iff.1 (Bool.and_eq_true_iff.1 (Bool.and_eq_true_iff.1 h).1).1).1
  have hr : r = wh r ++ tl r := by unfold wh tl; exact (List.takeWhile_append_dropWhile).symm
  have hl : r.length = (wh r).length + (tl r).length := by conv => lhs; rw [hr]; rw [List.length_append]
  unfold figs at h1
  rw [List.length_append, List.length_tail] at h1
  have hw' : wh r ≠ [] := by simpa using hw
  have := List.length_pos_iff.2 hw'
  omega
end Go.Proofs.YtpbklllmplimaaaDoor.dec
