/- The parts of a line: the plain law. -/
import Derived.Test.YtmpeolnnfblbkaaDoorBase
import Derived.Lib.SplitLaws
import Derived.Lib.IndexBytes
namespace Go.Proofs.YtmpeolnnfblbkaaDoor.sf
set_option linter.unusedVariables false

/-- the parts that are done, the part at hand; one byte more -/
def stepF (p : List (List UInt8) × List UInt8) (c : UInt8) : List (List UInt8) × List UInt8 := if c = 32 then (if p.2 = [] then (p.1, []) else (p.1 ++ [p.2], [])) else (p.1, p.2 ++ [c])
def flush (p : List (List UInt8) × List UInt8) : List (List UInt8) := if p.2 = [] then p.1 else p.1 ++ [p.2]
def runF (l : List UInt8) : List (List UInt8) × List UInt8 := l.foldl stepF ([], [])
def fields (l : List UInt8) : List (List UInt8) := flush (runF l)

theorem runF_snoc (l : List UInt8) (c : UInt8) : runF (l ++ [c]) = stepF (runF l) c := by simp [runF]
theorem step_pre (d : List (List UInt8)) (p : List (List UInt8) × List UInt8) (c : UInt8) : stepF (d ++ p.1, p.2) c = (d ++ (stepF p c).1, (stepF p c).2) := by
  unfold stepF
  by_cases h : c = 32
  · by_cases h2 : p.2 = []
    · simp [h, h2]
    · simp [h, h2]
  · simp [h]
theorem fold_pre (d : List (List UInt8)) (l : List UInt8) : ∀ p : List (List UInt8) × List UInt8, l.foldl stepF (d ++ p.1, p.2) = (d ++ (l.foldl stepF p).1, (l.foldl stepF p).2) := by
  induction l with
  | nil => intro p; rfl
  | cons c l ih => intro p; rw [List.foldl_cons, List.foldl_cons, step_pre, ih]
theorem fold_none (l : List UInt8) (h : ∀ b ∈ l, b ≠ 32) : ∀ d c, l.foldl stepF (d, c) = (d, c ++ l) := by
  induction l with
  | nil => intro d c; simp
  | cons b l ih =>
    intro d c
    rw [List.foldl_cons]
    have hb : b ≠ 32 := h b (List.mem_cons_self ..)
    have : stepF (d, c) b = (d, c ++ [b]) := by unfold stepF; rw [if_neg hb]
    rw [this, ih (fun x hx => h x (List.mem_cons_of_mem _ hx))]
    simp
theorem flush_pre (d : List (List UInt8)) (p : List (List UInt8) × List UInt8) : flush (d ++ p.1, p.2) = d ++ flush p := by
  unfold flush
  by_cases h : p.2 = [] <;> simp [h]
theorem fields_none {l : List UInt8} (h : ∀ b ∈ l, b ≠ 32) : fields l = if l = [] then [] else [l] := by
  unfold fields runF
  rw [fold_none l h]
  simp [flush]
theorem fields_cut {a b : List UInt8} (h : ∀ x ∈ a, x ≠ 32) : fields (a ++ 32 :: b) = (if a = [] then [] else [a]) ++ fields b := by
  unfold fields runF
  rw [List.foldl_append, fold_none a h, List.foldl_cons]
  have h1 : stepF ([], [] ++ a) 32 = ((if a = [] then [] else [a]) ++ ([] : List (List UInt8)), ([] : List UInt8)) := by
    unfold stepF
    rw [if_pos rfl]
    by_cases h2 : a = [] <;> simp [h2]
  rw [h1]
  have := fold_pre (if a = [] then [] else [a]) b ([], [])
  rw [this, flush_pre]

theorem ib_miss (l : List UInt8) (c : UInt8) (h : ∀ b ∈ l, b ≠ c) : Lib.indexByte l c = -1 := by
  induction l with
  | nil => rfl
  | cons b l ih =>
    unfold Lib.indexByte
    rw [if_neg (by simpa using h b (List.mem_cons_self ..)), ih (fun x hx => h x (List.mem_cons_of_mem _ hx))]
    rfl
theorem ib_hit (l : List UInt8) (c : UInt8) (i : Nat) (h : l[i]? = some c) (hb : ∀ j, j < i → l[j]? ≠ some c) : Lib.indexByte l c = i := by
  induction l generalizing i with
  | nil => simp at h
  | cons b l ih =>
    unfold Lib.indexByte
    cases i with
    | zero =>
      simp at h
      subst h
      simp
    | succ i =>
      have h0 := hb 0 (by omega)
      simp at h0
      rw [if_neg (by simpa using h0), ih i (by simpa using h) (fun j hj => by have := hb (j + 1) (by omega); simpa using this)]
      rw [if_neg (by simp)]
      omega
theorem first_at {l : List UInt8} {c : UInt8} (h : c ∈ l) : ∃ q : Nat, l[q]? = some c ∧ (∀ j, j < q → l[j]? ≠ some c) ∧ l = l.take q ++ c :: l.drop (q + 1) ∧ ∀ x ∈ l.take q, x ≠ c := by
  obtain ⟨q, hq⟩ := List.getElem?_of_mem h
  induction q using Nat.strongRecOn with
  | ind q ih =>
    by_cases hm : ∃ j, j < q ∧ l[j]? = some c
    · obtain ⟨j, h1, h2⟩ := hm
      exact ih j h1 h2
    · refine ⟨q, hq, fun j h1 h2 => hm ⟨j, h1, h2⟩, ?_, ?_⟩
      · obtain ⟨hlt, he⟩ := List.getElem?_eq_some_iff.1 hq
        rw [← he, ← List.drop_eq_getElem_cons hlt, List.take_append_drop]
      · rintro x hx rfl
        obtain ⟨j, hj⟩ := List.getElem?_of_mem hx
        have hjq : j < q := by
          have := (List.getElem?_eq_some_iff.1 hj).1
          simp at this; omega
        rw [List.getElem?_take_of_lt hjq] at hj
        exact hm ⟨j, hjq, hj⟩
/-- the pieces that are not empty are the parts -/
theorem split_fields : ∀ (k : Nat) (l : List UInt8), l.count 32 ≤ k → (Lib.splitK [32] 0 k l).filter (fun p => p != []) = fields l
  | 0, l, h => by
    have hn : ∀ b ∈ l, b ≠ 32 := by
      rintro b hb rfl
      have := List.count_pos_iff.2 hb; omega
    rw [fields_none hn]
    cases l <;> simp [Lib.splitK]
  | k + 1, l, h => by
    by_cases hm : (32 : UInt8) ∈ l
    · obtain ⟨q, hq, hb, he, hne⟩ := first_at hm
      have hi : Lib.index l [32] = (q : Int) := by rw [Lib.index_one]; exact ib_hit l 32 q hq hb
      have hc : (l.drop (q + 1)).count 32 ≤ k := by
        have h2 := congrArg (List.count (32 : UInt8)) he
        rw [List.count_append, List.count_cons_self] at h2
        omega
      have ih := split_fields k (l.drop (q + 1)) hc
      unfold Lib.splitK
      rw [hi, if_neg (by simp)]
      have e1 : ((q : Int).toNat + ([32] : List UInt8).length) = q + 1 := by simp
      have e2 : ((q : Int).toNat + 0) = q := by simp
      rw [e1, e2, List.filter_cons, ih]
      have e3 : fields l = (if l.take q = [] then [] else [l.take q]) ++ fields (l.drop (q + 1)) := by
        conv => lhs; rw [he]
        exact fields_cut hne
      rw [e3]
      by_cases h0 : l.take q = [] <;> simp [h0]
    · have hn : ∀ b ∈ l, b ≠ 32 := fun b hb e => hm (e ▸ hb)
      have hi : Lib.index l [32] = -1 := by rw [Lib.index_one]; exact ib_miss l 32 hn
      unfold Lib.splitK
      rw [hi, if_pos (by simp), fields_none hn]
      cases l <;> simp
end Go.Proofs.YtmpeolnnfblbkaaDoor.sf
