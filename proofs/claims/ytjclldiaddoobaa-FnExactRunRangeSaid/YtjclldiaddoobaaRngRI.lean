/- RunRange in package impl, walked. -/
import Derived.Test.YtjclldiaddoobaaRngR
import Derived.Test.YtjclldiaddoobaaRngO
namespace Go.Proofs.Ytjclldiaddoobaa.rng
open Go.RowKit base Fl same draw
set_option linter.unusedVariables false

theorem below_row {w W W' : World} {r : Option Nat} (h : Below w.heap.size w W) (k : W.grownBy W' r) (hr : ∀ b, r = some b → w.heap.size ≤ b) : Below w.heap.size w W' :=
  ⟨k.os.trans h.os, k.tape.trans h.tape, k.output.trans h.output, Nat.le_trans h.size k.size, fun i hi => (k.block i (Nat.lt_of_lt_of_le hi h.size) (fun e => by have := hr i e.symm; omega)).trans (h.block i hi)⟩
theorem news1 (W : World) (a : Value) (t : TypeId) {nb : Nat} (hnb : nb = W.heap.size) : ∀ (j : Nat) (u : Value), [a][j]? = some u → (W.alloc (.cells #[a] t)).cell? ((⟨nb, 0, none⟩ : Addr).add j) = some u := by
  subst hnb
  intro j u h
  rw [Go.WideShapes.add_plain, Nat.zero_add, World.cell?_alloc_new]
  simpa using h

set_option maxHeartbeats 2000000 in
theorem impl_RunRange (A B : Option Addr) (n c m c' : Nat) (F D U X : Nat → Nat) (a : Int) (w : World) (h : Rs w A n c F D U) (hX : Fs w B m c' X) :
    Calls Try.prog 35 #[.slice A n c, .int .i64 a, .slice B m c'] w (RunE n m F D U X a w) := by
  have hmm : m ≤ 9223372036854775807 := Nat.le_trans hX.1 hX.2.1
  obtain ⟨i0, hi, hz0, hz1, hz2⟩ := info_parts (P := Try.prog) (e := 3) (z := .int .i64 0) (size := 1) (bytes := 8) (by kernel_rfl)
  cases hok : okAt n F D U a with
  | false =>
    go_enter Try.func35, Try.ntmps35
    go_wp2_with fail
    refine (rangeOk_of A n c F D U a _ h hok).mono ?_
    rintro e w1 ⟨rfl, b1⟩
    go_wp2_with fail
    go_ret
    exact ⟨_, [], rfl, World.ownsRow_nil _ _ _ _, fun h => (by rw [hok] at h; cases h), fun _ => rfl, b1⟩
  | true =>
  by_cases hm : m ≤ 100
  · have hd : decide ((m : Int) > 100) = false := by simp; omega
    have HC : Hid ((okAt n F D U a && decide (m ≤ 100)) = true) := by show _ = _; rw [hok, decide_eq_true hm]; rfl
    go_enter Try.func35, Try.ntmps35
    go_wp2_with fail
    refine (rangeOk_of A n c F D U a _ h hok).mono ?_
    rintro e w1 ⟨rfl, b1⟩
    have B1 := Lib.hid b1
    clear b1
    go_wp2_with fail
    go_loopw [1, 7, 21] (fun av v i wr => ∃ (k : Nat) (L : List Int) (q : Int), k ≤ m ∧ i = .int .i64 k ∧ av = .int .i64 q ∧ L.length = k ∧ q = (if L.length = 0 then a else L.getD (L.length - 1) 0) ∧ okAt n F D U q = true ∧ Chain n F D U X a L ∧ wr.ownsRow w.heap.size 3 1 v L.length (L.map (Value.int .i64)) ∧ Below w.heap.size w wr) (fun _ _ i _ => m - (intOf i).toNat)
    case atStart => exact ⟨0, [], a, Nat.zero_le _, rfl, rfl, rfl, rfl, hok, fun j hj => absurd hj (by simp), World.ownsRow_nil _ _ _ _, B1.out⟩
    case round =>
      obtain ⟨k, L, q, hk, rfl, rfl, hL, hq, hqok, hch, hown, hbel⟩ := hrel
      have HCH := Lib.hid hch; have HOW := Lib.hid hown; have HB := Lib.hid hbel; have HL := Lib.hid hL; have HQ := Lib.hid hq
      clear hch hown hL hq
      by_cases hkm : k < m
      · obtain ⟨b, off, rfl, hlt, hcells⟩ := hX.2.2 (by omega)
        have t1 := (hbel.cell (p := ⟨b, off + k, none⟩) hlt).trans (hcells k hkm).1
        clear hbel hcells
        go_wp2_with fail
        refine (impl_Settle A n c F D U q (X k) _ (h.below HB.out)).mono ?_
        rintro e w2 ⟨r, rfl, hs, b2⟩
        have HS := Lib.hid hs
        have BB := Lib.hid (HB.out.trans (b2.mono HB.out.size))
        have HOW2 := Lib.hid ((HOW.out.kept (grown_of_below b2 none) (by
          cases hv : Value.ownBlock _ with
          | none => exact Or.inl rfl
          | some x => exact Or.inr (by simp))).alloc (.cells #[.int .i64 r] 3))
        clear hs b2 t1
        go_wp2_with (at_builtin; refine wpList_append_own _ rfl _ _ 43 rfl w.heap.size 3 i0 (.int .i64 0) 1 8 Try.underlying43 hi hz0 hz1 hz2 rfl (by decide) _ _ _ rfl HOW2.out ⟨_, 0, none⟩ 1 1 [.int .i64 r] rfl rfl (news1 _ _ _ (by simp)) (by simp [Value.oneCell']) (by have := HL.out; unfold maxLen; omega) (by have := HL.out; omega) (by have := BB.out.size; simp; omega) ?_; intro v8 w8 own8 gr8 _)
        have hb8 := below_row (BB.out.alloc BB.out.size _) gr8 (fun b e => (HOW2.out.lt b e).1)
        have hlen := HL.out
        have hsr : okAt n F D U r = true ∧ Chain n F D U X a (L ++ [r]) := by
          have hs := HS.out
          have hq := HQ.out
          refine ⟨?_, HCH.out.step (by rw [← hq, hlen]; exact hs)⟩
          rcases hs with ⟨h0, _⟩ | ⟨h1, s, rfl, hsn, _⟩
          · rw [hqok] at h0; cases h0
          · exact okAt_of (okAt_k h1).1 hsn
        have OW8 := Lib.hid own8
        have HB8 := Lib.hid hb8
        have HSR := Lib.hid hsr
        clear own8 gr8 hb8 hlen hsr
        go_wp2_with fail
        go_roundw
        case rel =>
          have hlen := HL.out
          refine ⟨k + 1, L ++ [r], r, by omega, by go_num, rfl, by simp [hlen], by simp [List.getD], HSR.out.1, HSR.out.2, ?_, HB8.out⟩
          have := OW8.out
          rw [show L.length + 1 = (L ++ [r]).length by simp, show L.map (Value.int .i64) ++ [Value.int .i64 r] = (L ++ [r]).map (Value.int .i64) by simp] at this
          exact this
        case measure => simp [intOf]; omega
      · have : k = m := by omega
        subst this
        clear hbel
        go_wp2_with fail
        go_ret
        exact ⟨_, L, rfl, HOW.out, fun _ => ⟨HL.out, HCH.out⟩, fun h => (by rw [HC.out] at h; cases h), HB.out⟩
  · have hd : decide ((m : Int) > 100) = true := by simp; omega
    go_enter Try.func35, Try.ntmps35
    go_wp2_with fail
    refine (rangeOk_of A n c F D U a _ h hok).mono ?_
    rintro e w1 ⟨rfl, b1⟩
    go_wp2_with fail
    go_ret
    exact ⟨_, [], rfl, World.ownsRow_nil _ _ _ _, fun h => (by rw [decide_eq_false hm, Bool.and_false] at h; cases h), fun _ => rfl, b1⟩
end Go.Proofs.Ytjclldiaddoobaa.rng
