/- A law's ranges, opened: what the walk is told of a slice of ranges that came in. -/
import Derived.Test.YtjclldiaddoobaaRng
import Derived.ProofKit
import Derived.OpenShut
import Derived.Deep.Slices
import Derived.Deep.Fields
import Derived.ChangeSame
namespace Go.Proofs.Ytjclldiaddoobaa.rng
open Go.ChangeShapes Go.WideShapes Go.ChangeAt Go.RowKit Go.Deep Fl same
set_option linter.unusedVariables false

theorem trod_f {H : Type} {enc : TypeId × Value → H} {P : Program} {w : World} {base : Nat} {spare : Nat → Bool} {held : Bool} {fuel : Nat} {t : TypeId} {cs : List Value} {x : DataW H × List MemPlace} {k : FloatKind}
    (ht : P.underlying t = some (.float k)) (h : DataW.trod enc P w base spare held fuel t cs = some x) : ∃ b, cs = [.float k b] ∧ (Lit.float k b).wf = true := by
  cases fuel with
  | zero => simp [DataW.trod] at h
  | succ n =>
    unfold DataW.trod at h
    rw [ht] at h
    split at h <;> simp_all

theorem choose3 {P : Nat → Nat → Nat → Nat → Prop} {n : Nat} (h : ∀ i, i < n → ∃ f d u, P i f d u) : ∃ F D U : Nat → Nat, ∀ i, i < n → P i (F i) (D i) (U i) := by
  refine ⟨fun i => if h' : i < n then (h i h').choose else 0, fun i => if h' : i < n then (h i h').choose_spec.choose else 0, fun i => if h' : i < n then (h i h').choose_spec.choose_spec.choose else 0, fun i hi => ?_⟩
  simp only [dif_pos hi]
  exact (h i hi).choose_spec.choose_spec.choose_spec

theorem ranges_of_trod {H : Type} {enc : TypeId × Value → H} {W : World} {a : Option Addr} {len cap : Nat} {d : DataW H} {p : List MemPlace}
    (h : DataW.Trod enc Try.prog W 0 (fun _ => true) true 22 (.slice a len cap) d p) : ∃ F D U : Nat → Nat, Rs W a len cap F D U := by
  obtain ⟨fuel, hf⟩ := h
  rcases open_slice Try.underlying22 hf with ⟨hcs, _⟩ | ⟨ad, l, c, m, n, Dd, Pl, hcs, _, hl, hm, hmm, _, hi⟩
  · simp [Value.cells] at hcs
    obtain ⟨rfl, rfl, rfl⟩ := hcs
    exact ⟨fun _ => 0, fun _ => 0, fun _ => 0, Nat.le_refl _, by omega, fun h => absurd h (by omega)⟩
  · simp [Value.cells] at hcs
    obtain ⟨rfl, rfl, rfl⟩ := hcs
    have hmm' : m = cap := by simpa using hmm
    obtain ⟨fs, hfs, ⟨f0, k0, t0, o0⟩, ⟨f1, k1, t1, o1⟩, ⟨f2, k2, t2, o2⟩, hsz⟩ : ∃ fs : Array Field, Try.prog.underlying 61 = some (.struct fs) ∧ (∃ f, fs[0]? = some f ∧ f.type = 29 ∧ f.offset = 0) ∧ (∃ f, fs[1]? = some f ∧ f.type = 29 ∧ f.offset = 1) ∧
        (∃ f, fs[2]? = some f ∧ f.type = 29 ∧ f.offset = 2) ∧ fs.size = 3 := ⟨_, Try.underlying61, ⟨_, rfl, rfl, rfl⟩, ⟨_, rfl, rfl, rfl⟩, ⟨_, rfl, rfl, rfl⟩, rfl⟩
    have hone : ∀ i, i < len → ∃ f d u : Nat, W.cell? (ad.add (i * 3)) = some (.float .f32 f) ∧ W.cell? (ad.add (i * 3 + 1)) = some (.float .f32 d) ∧ W.cell? (ad.add (i * 3 + 2)) = some (.float .f32 u) ∧ f < 2 ^ 32 ∧ d < 2 ^ 32 ∧ u < 2 ^ 32 := by
      intro i hil
      obtain ⟨cs', hc, ht⟩ := hi i (by omega)
      rw [show Try.prog.cellsOf 61 = 3 from by kernel_rfl] at hc
      obtain ⟨ys, n', _, _, _, hyl, hg⟩ := DataW.trod_struct hfs ht
      obtain ⟨_, hcl, hat⟩ := World.cells?_some hc
      match cs', hcl with
      | [x0, x1, x2], _ =>
        have one : Try.prog.cellsOf 29 = 1 := by kernel_rfl
        have g0 := hg 0 _ k0
        have g1 := hg 1 _ k1
        have g2 := hg 2 _ k2
        rw [t0, o0, one] at g0
        rw [t1, o1, one] at g1
        rw [t2, o2, one] at g2
        have hlen : ys.length = 3 := hyl.trans hsz
        match ys, hlen with
        | [y0, y1, y2], _ =>
          obtain ⟨f, e0, w0⟩ := trod_f Try.underlying29 (by simpa using g0)
          obtain ⟨d, e1, w1⟩ := trod_f Try.underlying29 (by simpa using g1)
          obtain ⟨u, e2, w2⟩ := trod_f Try.underlying29 (by simpa using g2)
          simp only [List.cons.injEq, and_true] at e0 e1 e2
          subst e0 e1 e2
          have a0 := hat 0 (by omega)
          have a1 := hat 1 (by omega)
          have a2 := hat 2 (by omega)
          rw [Go.Deep.add_add] at a0 a1 a2
          exact ⟨f, d, u, a0, a1, a2, lt_of_wf w0, lt_of_wf w1, lt_of_wf w2⟩
    by_cases h0 : 0 < len
    · obtain ⟨b, off, spot⟩ := ad
      obtain ⟨f, d, u, hx, _⟩ := hone 0 h0
      have hspot : spot = none := by simpa [Addr.add] using World.cell?_spot hx
      subst hspot
      obtain ⟨F, D, U, hFDU⟩ := choose3 hone
      refine ⟨F, D, U, hl, by unfold maxLen at hm; omega, fun _ => ⟨b, off, rfl, block_lt_of_cell hx, fun j hj => ?_⟩⟩
      obtain ⟨q1, q2, q3, q4⟩ := hFDU j hj
      rw [Go.WideShapes.add_plain] at q1 q2 q3
      exact ⟨⟨q1, q2, q3⟩, q4⟩
    · exact ⟨fun _ => 0, fun _ => 0, fun _ => 0, hl, by unfold maxLen at hm; omega, fun h => absurd h h0⟩
end Go.Proofs.Ytjclldiaddoobaa.rng
