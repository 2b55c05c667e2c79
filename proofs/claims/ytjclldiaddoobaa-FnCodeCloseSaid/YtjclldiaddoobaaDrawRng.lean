/- The ranges that are drawn: a list that is right. -/
import Derived.Test.YtjclldiaddoobaaRngP
import Derived.Test.YtjclldiaddoobaaDrawSi
import Derived.OwnWalk
import Derived.LoopTactic
namespace Go.Proofs.Ytjclldiaddoobaa.rng
open Go.RowKit base Fl same draw
set_option linter.unusedVariables false
attribute [local go_sem] store_f

/-- the cells of a list of ranges -/
def cellsL (L : List (Nat × Nat × Nat)) : List Value := L.flatMap fun t => [.float .f32 t.1, .float .f32 t.2.1, .float .f32 t.2.2]
def Fn (L : List (Nat × Nat × Nat)) (j : Nat) : Nat := (L.getD j (0, 0, 0)).1
def Dn (L : List (Nat × Nat × Nat)) (j : Nat) : Nat := (L.getD j (0, 0, 0)).2.1
def Un (L : List (Nat × Nat × Nat)) (j : Nat) : Nat := (L.getD j (0, 0, 0)).2.2

theorem cellsL_length (L : List (Nat × Nat × Nat)) : (cellsL L).length = L.length * 3 := by
  induction L with
  | nil => rfl
  | cons a L ih => unfold cellsL at *; simp only [List.flatMap_cons, List.length_append, ih, List.length_cons, List.length_nil]; omega
theorem cellsL_app (L : List (Nat × Nat × Nat)) (f d u : Nat) : cellsL (L ++ [(f, d, u)]) = cellsL L ++ [.float .f32 f, .float .f32 d, .float .f32 u] := by simp [cellsL]
theorem cellsL_at : ∀ (L : List (Nat × Nat × Nat)) (j : Nat), j < L.length →
    (cellsL L)[j * 3]? = some (.float .f32 (Fn L j)) ∧ (cellsL L)[j * 3 + 1]? = some (.float .f32 (Dn L j)) ∧ (cellsL L)[j * 3 + 2]? = some (.float .f32 (Un L j))
  | [], j, h => absurd h (by simp)
  | a :: L, 0, _ => ⟨rfl, rfl, rfl⟩
  | a :: L, j + 1, h => by
    obtain ⟨h1, h2, h3⟩ := cellsL_at L j (by simpa using h)
    have e : ∀ i, (cellsL (a :: L))[i + 3]? = (cellsL L)[i]? := fun i => by
      show (([Value.float .f32 a.1, .float .f32 a.2.1, .float .f32 a.2.2]) ++ cellsL L)[i + 3]? = _
      rw [List.getElem?_append_right (by simp)]; simp
    refine ⟨?_, ?_, ?_⟩
    · rw [show (j + 1) * 3 = j * 3 + 3 by omega, e, h1]; rfl
    · rw [show (j + 1) * 3 + 1 = j * 3 + 1 + 3 by omega, e, h2]; rfl
    · rw [show (j + 1) * 3 + 2 = j * 3 + 2 + 3 by omega, e, h3]; rfl
theorem getD_app_lt {L : List (Nat × Nat × Nat)} {j : Nat} (t : Nat × Nat × Nat) (h : j < L.length) : (L ++ [t]).getD j (0, 0, 0) = L.getD j (0, 0, 0) := by
  simp [List.getD, List.getElem?_append_left h]
theorem getD_app_eq (L : List (Nat × Nat × Nat)) (t : Nat × Nat × Nat) : (L ++ [t]).getD L.length (0, 0, 0) = t := by
  simp [List.getD]

/-- the list so far, the next end, the last upper bound -/
structure So (L : List (Nat × Nat × Nat)) (full last : Nat) : Prop where
  ok : ∀ j, j < L.length → okA (Fn L j) (Dn L j) (Un L j) = true ∧ (0 < j → okP (Fn L j) (Dn L j) (Fn L (j - 1)) (Un L (j - 1)) = true)
  lt : ∀ j, j < L.length → Fn L j < S.infRung ∧ Dn L j < S.infRung ∧ Un L j < S.infRung
  low : lo ≤ full
  hi : mg S full ≤ 2 ^ (154 + 4 * L.length)
  fl : last < S.infRung
  nil : L = [] → last = 0
  cons : 0 < L.length → last = Un L (L.length - 1) ∧ Fn L (L.length - 1) < full

theorem So.step {L : List (Nat × Nat × Nat)} {full last d u full' : Nat} (h : So L full last) (hl : L.length ≤ 8) (hd : d ≤ last) (hdu : d < u) (huf : u ≤ full) (hf : full < full') (hm : mg S full' ≤ 2 ^ (154 + 4 * L.length + 4)) :
    So (L ++ [(full, d, u)]) full' u := by
  have hI : full < S.infRung := fin_of_le h.hi (by omega)
  have len : (L ++ [(full, d, u)]).length = L.length + 1 := by simp
  have e1 : ∀ j, j < L.length → Fn (L ++ [(full, d, u)]) j = Fn L j ∧ Dn (L ++ [(full, d, u)]) j = Dn L j ∧ Un (L ++ [(full, d, u)]) j = Un L j := fun j hj => by
    unfold Fn Dn Un; rw [getD_app_lt _ hj]; exact ⟨rfl, rfl, rfl⟩
  have e2 : Fn (L ++ [(full, d, u)]) L.length = full ∧ Dn (L ++ [(full, d, u)]) L.length = d ∧ Un (L ++ [(full, d, u)]) L.length = u := by
    unfold Fn Dn Un; rw [getD_app_eq]; exact ⟨rfl, rfl, rfl⟩
  refine ⟨fun j hj => ?_, fun j hj => ?_, by have := h.low; omega, ?_, by omega, fun e => ?_, fun _ => ?_⟩
  · rw [len] at hj
    by_cases hjl : j < L.length
    · obtain ⟨a1, a2, a3⟩ := e1 j hjl
      rw [a1, a2, a3]
      refine ⟨(h.ok j hjl).1, fun h0 => ?_⟩
      obtain ⟨b1, _, b3⟩ := e1 (j - 1) (by omega)
      rw [b1, b3]
      exact (h.ok j hjl).2 h0
    · obtain rfl : j = L.length := by omega
      obtain ⟨a1, a2, a3⟩ := e2
      rw [a1, a2, a3]
      refine ⟨okA_of hI hdu huf h.low, fun h0 => ?_⟩
      obtain ⟨b1, _, b3⟩ := e1 (L.length - 1) (by omega)
      obtain ⟨c1, c2⟩ := h.cons h0
      rw [b1, b3]
      exact okP_of hI c2 (by rw [← c1]; exact hd) (by rw [← c1]; exact h.fl)
  · rw [len] at hj
    by_cases hjl : j < L.length
    · obtain ⟨a1, a2, a3⟩ := e1 j hjl
      rw [a1, a2, a3]; exact h.lt j hjl
    · obtain rfl : j = L.length := by omega
      obtain ⟨a1, a2, a3⟩ := e2
      rw [a1, a2, a3]; exact ⟨hI, by omega, by omega⟩
  · rw [len]; exact hm
  · simp at e
  · rw [len, Nat.add_sub_cancel]
    obtain ⟨a1, a2, a3⟩ := e2
    rw [a1, a3]; exact ⟨rfl, hf⟩
theorem So.good {L : List (Nat × Nat × Nat)} {full last : Nat} (h : So L full last) (h1 : 1 ≤ L.length) (h2 : L.length ≤ 12) : goodB L.length (Fn L) (Dn L) (Un L) = true := decide_eq_true ⟨⟨h1, h2⟩, h.ok⟩

/-- where the draw stands -/
structure St (w0 w : World) (g : Nat) (W : World) : Prop where
  cur : Cur w0 W g
  gr : w.grownBy W (some g)
section
variable {w0 w : World} {g : Nat} {W W' : World}
theorem St.alloc (h : St w0 w g W) (o : Obj) : St w0 w g (W.alloc o) := ⟨h.cur.alloc o, grown_alloc h.gr o⟩
theorem St.draw (h : St w0 w g W) (c : Cur w0 W' g) (k : W.grownBy W' (some g)) : St w0 w g W' := ⟨c, grown_trans h.gr k⟩
theorem St.drewN (h : St w0 w g W) (n : Nat) : St w0 w g (W.drewN n) := ⟨h.cur.drewN n, grown_drewN h.gr n⟩
theorem St.row (h : St w0 w g W) (hw : w0.heap.size ≤ w.heap.size) (hg : g < w.heap.size) {r : Option Nat} (k : W.grownBy W' r) (hr : ∀ b, r = some b → w.heap.size ≤ b) : St w0 w g W' := by
  refine ⟨h.cur.grown k (fun b e => ?_), ⟨k.os.trans h.gr.os, k.tape.trans h.gr.tape, k.output.trans h.gr.output, Nat.le_trans h.gr.size k.size, fun i hi hne => ?_⟩⟩
  · have := hr b e; exact ⟨by omega, by omega⟩
  · refine (k.block i (Nat.lt_of_lt_of_le hi h.gr.size) ?_).trans (h.gr.block i hi hne)
    intro e
    have := hr i e.symm
    omega
theorem St.set_ (h : St w0 w g W) (hw : w0.heap.size ≤ w.heap.size) (hg : g < w.heap.size) {p : Addr} (hp : w.heap.size ≤ p.block) (u : Value) : St w0 w g (W.setCell p u) :=
  h.row hw hg (r := some p.block) (grown_set (grown_refl W (some p.block)) (Or.inl rfl) u) (fun b e => by injection e with e; omega)
end

/-- block b is the range (f, d, u) -/
def Bk (w : World) (b f d u : Nat) : Prop := w.heap[b]? = some (.cells #[.float .f32 f, .float .f32 d, .float .f32 u] 57 (0, 0))
section
variable {w w' : World} {b f d u : Nat}
theorem Bk.lt (h : Bk w b f d u) : b < w.heap.size := by
  rcases Nat.lt_or_ge b w.heap.size with hlt | hge
  · exact hlt
  · unfold Bk at h; rw [Array.getElem?_eq_none hge] at h; cases h
theorem Bk.c0 (h : Bk w b f d u) : w.cell? ⟨b, 0, none⟩ = some (.float .f32 f) := cell_of_row w b 0 _ _ (0, 0) h
theorem Bk.c1 (h : Bk w b f d u) : w.cell? ⟨b, 1, none⟩ = some (.float .f32 d) := cell_of_row w b 1 _ _ (0, 0) h
theorem Bk.c2 (h : Bk w b f d u) : w.cell? ⟨b, 2, none⟩ = some (.float .f32 u) := cell_of_row w b 2 _ _ (0, 0) h
theorem Bk.fr (h : Bk w b f d u) (i : Nat) : w.frozen? ⟨b, i, none⟩ = false := by unfold Bk at h; simp [World.frozen?, h]
theorem Bk.new (w : World) (f d u : Nat) : Bk (w.alloc (.cells #[.float .f32 f, .float .f32 d, .float .f32 u] 57)) w.heap.size f d u := heap_alloc_new w _
theorem Bk.grown {r : Option Nat} (h : Bk w b f d u) (k : w.grownBy w' r) (hr : some b ≠ r) : Bk w' b f d u := (k.block b h.lt hr).trans h
theorem Bk.set1 (h : Bk w b f d u) (x : Nat) : Bk (w.setCell ⟨b, 1, none⟩ (.float .f32 x)) b f x u := by
  unfold Bk at h ⊢
  simp [World.setCell, Array.getElem?_modify, h]
theorem Bk.set2 (h : Bk w b f d u) (x : Nat) : Bk (w.setCell ⟨b, 2, none⟩ (.float .f32 x)) b f d x := by
  unfold Bk at h ⊢
  simp [World.setCell, Array.getElem?_modify, h]
end
end Go.Proofs.Ytjclldiaddoobaa.rng
