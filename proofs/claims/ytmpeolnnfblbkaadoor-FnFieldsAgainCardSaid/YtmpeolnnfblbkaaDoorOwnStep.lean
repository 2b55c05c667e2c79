/- An append to a row of the call's own as one step of a region that draws its order; cells that were just laid. -/
import Derived.Test.YtmpeolnnfblbkaaDoorBase
import Derived.Laws.AppendOwn
import Derived.Laws.OwnMore
import Derived.Deep.RegionLaw
import Derived.OwnWalk
import Derived.Lib.UnsafeStr
import Derived.Lib.BufferRead
import Derived.Laws.IdiomStrings
namespace Go.Proofs.YtmpeolnnfblbkaaDoor.base
open Go.RowKit
set_option linter.unusedVariables false

theorem step_append_own {P : Program} {ops : Array Oper} {o : Oper} {a : Act} {w : World} {K : Act → World → Prop} {Q : Exit → Act → World → Prop} {E : Prop}
    (hg : o.guard = none) (s x : Operand) (t : TypeId) (hop : o.op = Op.call { callee := Callee.builtin Builtin.append, args := #[s, x], argTypes := #[t, t] })
    (base : Nat) (e : TypeId) (i : TypeInfo) (z : Value) (size bytes : Nat) (h1 : P.underlying t = some (.slice e)) (h2 : P.info? e = some i) (h3 : i.zero = some z) (h4 : i.size = size) (h5 : i.bytes = bytes) (h6 : z.cells.size = size) (h7 : 0 < size)
    (v : Value) (n : Nat) (xs : List Value) (hs : a.eval s = v) (hown : w.ownsRow base e size v n xs)
    (ad : Addr) (m c : Nat) (news : List Value) (hx : a.eval x = .slice (some ad) m c) (hn : news.length = m * size) (hc : ∀ j u, news[j]? = some u → w.cell? (ad.add j) = some u) (h1c : ∀ u ∈ news, u.oneCell' = true)
    (b1 : n + m ≤ maxLen) (b2 : (n + m) * bytes ≤ 140737488355328) (hb : base ≤ w.heap.size)
    (hK : ∀ v' w', w'.ownsRow base e size v' (n + m) (xs ++ news) → w.grownBy w' v.ownBlock → K (a.put o.dst v') w') :
    if Region.wanted o (yielded ops a.tmps) = true then Oper.wp P o a w K Q else E := by
  have hw : Region.wanted o (yielded ops a.tmps) = true := by simp [Region.wanted, hg]
  rw [if_pos hw]
  exact wp_append_own w s x t hop base e i z size bytes h1 h2 h3 h4 h5 h6 h7 v n xs hs hown ad m c news hx hn hc h1c b1 b2 hb fun v' w' a b _ => hK v' w' a b

theorem below_row {w W W' : World} {r : Option Nat} (h : Below w.heap.size w W) (k : W.grownBy W' r) (hr : ∀ b, r = some b → w.heap.size ≤ b) : Below w.heap.size w W' :=
  ⟨k.os.trans h.os, k.tape.trans h.tape, k.output.trans h.output, Nat.le_trans h.size k.size, fun j hj => (k.block j (Nat.lt_of_lt_of_le hj h.size) (fun e => by have := hr j e.symm; omega)).trans (h.block j hj)⟩
theorem news1 (W : World) (a : Value) (t : TypeId) {nb : Nat} (hnb : nb = W.heap.size) : ∀ (j : Nat) (u : Value), [a][j]? = some u → (W.alloc (.cells #[a] t)).cell? ((⟨nb, 0, none⟩ : Addr).add j) = some u := by
  intro j u hj
  subst hnb
  match j, hj with
  | 0, hj => simp at hj; subst hj; show (W.alloc _).cell? ⟨_, 0 + 0, none⟩ = _; rw [World.cell?_alloc_new]; rfl
theorem news2 (W : World) (a b : Value) (t : TypeId) {nb : Nat} (hnb : nb = W.heap.size) : ∀ (j : Nat) (u : Value), [a, b][j]? = some u → (W.alloc (.cells #[a, b] t)).cell? ((⟨nb, 0, none⟩ : Addr).add j) = some u := by
  intro j u hj
  subst hnb
  match j, hj with
  | 0, hj => simp at hj; subst hj; show (W.alloc _).cell? ⟨_, 0 + 0, none⟩ = _; rw [World.cell?_alloc_new]; rfl
  | 1, hj => simp at hj; subst hj; show (W.alloc _).cell? ⟨_, 0 + 1, none⟩ = _; rw [World.cell?_alloc_new]; rfl
/-- string(b) of a row of the call's own that holds the bytes l -/
theorem own_string {P : Program} {w : World} {B n : Nat} {src dst e : TypeId} {v : Value} {l : List UInt8} (h : w.ownsRow B e 1 v n (Lib.byteCells l)) (hs : P.underlying src = some (.slice e)) (he : P.underlying e = some (.int .u8)) (hd : P.underlying dst = some .string) :
    (convert src dst v).run P w = .ok (.string ⟨l.toArray⟩) w := by
  have hn : l.length = n := by have := h.1; rw [Lib.byteCells_length] at this; omega
  have h' := h
  rcases h.2 with ⟨rfl, h0⟩ | ⟨g, cap, cur, rfl, _, hg, _, _, _, htake⟩
  · have : l = [] := List.eq_nil_of_length_eq_zero (by omega)
    subst this
    exact Lib.run_convert_nil_bytes w src dst e 0 hs he hd
  · subst hn
    rw [Nat.mul_one] at htake
    exact run_convert_bytes_back w src dst e ⟨g, 0, none⟩ cap l hs he hd (Lib.bytes_of_row hg htake)
end Go.Proofs.YtmpeolnnfblbkaaDoor.base
