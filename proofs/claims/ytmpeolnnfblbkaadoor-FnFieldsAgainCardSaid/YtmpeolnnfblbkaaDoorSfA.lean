/- The parts of a line, joined: the same parts: the plain law; sameTexts. -/
import Derived.Test.YtmpeolnnfblbkaaDoorMarkT
namespace Go.Proofs.YtmpeolnnfblbkaaDoor.sf
open Go.RowKit base
set_option linter.unusedVariables false

/-- the parts with a blank behind each -/
def joined (L : List (List UInt8)) : List UInt8 := L.flatMap fun x => x ++ [32]
theorem joined_snoc (L : List (List UInt8)) (x : List UInt8) : joined (L ++ [x]) = joined L ++ (x ++ [32]) := by simp [joined]
theorem joined_cons (L : List (List UInt8)) (x : List UInt8) : joined (x :: L) = x ++ 32 :: joined L := by simp [joined]
theorem fields_nil : fields [] = [] := rfl
/-- a part is not empty and holds no blank -/
def okPart (l x : List UInt8) : Prop := x ≠ [] ∧ ∀ b ∈ x, b ≠ 32 ∧ b ∈ l
theorem fields_join : ∀ (L : List (List UInt8)), (∀ x ∈ L, x ≠ [] ∧ ∀ b ∈ x, b ≠ 32) → fields (joined L) = L
  | [], _ => rfl
  | x :: L, h => by
    have h1 := h x (List.mem_cons_self ..)
    rw [joined_cons, fields_cut h1.2, fields_join L (fun y hy => h y (List.mem_cons_of_mem _ hy)), if_neg h1.1]
    rfl
theorem run_ok (l : List UInt8) : ∀ (pre : List UInt8) (p : List (List UInt8) × List UInt8), (∀ x ∈ p.1, okPart (pre ++ l) x) → (∀ b ∈ p.2, b ≠ 32 ∧ b ∈ pre ++ l) →
    (∀ x ∈ (l.foldl stepF p).1, okPart (pre ++ l) x) ∧ ∀ b ∈ (l.foldl stepF p).2, b ≠ 32 ∧ b ∈ pre ++ l := by
  induction l with
  | nil => intro pre p h1 h2; exact ⟨h1, h2⟩
  | cons c l ih =>
    intro pre p h1 h2
    have e : pre ++ c :: l = (pre ++ [c]) ++ l := by simp
    rw [List.foldl_cons]
    rw [e] at h1 h2 ⊢
    refine ih (pre ++ [c]) (stepF p c) ?_ ?_
    · unfold stepF
      by_cases hc : c = 32
      · rw [if_pos hc]
        by_cases h0 : p.2 = []
        · rw [if_pos h0]; exact h1
        · rw [if_neg h0]
          intro x hx
          simp only [List.mem_append, List.mem_singleton] at hx
          rcases hx with hx | rfl
          · exact h1 x hx
          · exact ⟨h0, h2⟩
      · rw [if_neg hc]; exact h1
    · unfold stepF
      by_cases hc : c = 32
      · rw [if_pos hc]
        by_cases h0 : p.2 = []
        · rw [if_pos h0]; intro b hb; cases hb
        · rw [if_neg h0]; intro b hb; cases hb
      · rw [if_neg hc]
        intro b hb
        simp only [List.mem_append, List.mem_singleton] at hb
        rcases hb with hb | rfl
        · exact h2 b hb
        · exact ⟨hc, by simp⟩
theorem fields_ok (l : List UInt8) : ∀ x ∈ fields l, okPart l x := by
  obtain ⟨h1, h2⟩ := run_ok l [] ([], []) (fun x hx => by cases hx) (fun b hb => by cases hb)
  rw [List.nil_append] at h1 h2
  unfold fields flush runF
  by_cases h0 : (l.foldl stepF ([], [])).2 = []
  · rw [if_pos h0]; exact h1
  · rw [if_neg h0]
    intro x hx
    simp only [List.mem_append, List.mem_singleton] at hx
    rcases hx with hx | rfl
    · exact h1 x hx
    · exact ⟨h0, h2⟩
theorem sf_join {l : List UInt8} (h : sfOk l = true) (hl : (joined (fields l)).length ≤ 600) : sfOk (joined (fields l)) = true ∧ sfV (joined (fields l)) = fields l := by
  have hok := fields_ok l
  have hf := fields_join (fields l) (fun x hx => ⟨(hok x hx).1, fun b hb => ((hok x hx).2 b hb).1⟩)
  unfold sfOk at h
  simp only [Bool.and_eq_true, decide_eq_true_eq] at h
  obtain ⟨⟨_, h2⟩, h3⟩ := h
  have hall : (joined (fields l)).all inR = true := by
    rw [List.all_eq_true]
    intro b hb
    unfold joined at hb
    simp only [List.mem_flatMap, List.mem_append, List.mem_singleton] at hb
    obtain ⟨x, hx, hb | rfl⟩ := hb
    · exact List.all_eq_true.1 h2 b ((hok x hx).2 b hb).2
    · decide
  have hg := sf_good hl hall (by rw [hf]; exact h3)
  obtain ⟨a, b⟩ := sf_yes hg
  exact ⟨a, by rw [b, hf]⟩

set_option maxHeartbeats 1000000 in
theorem sameTexts (A A' : Option Addr) (n c c' : Nat) (X : Nat → ByteArray) (w : World) (h : Ss w A n c X) (h' : Ss w A' n c' X) :
    Calls Tryd.prog 20 #[.slice A n c, .slice A' n c'] w fun e w' => e = .returned (.bool true) ∧ Below w.heap.size w w' := by
  rcases Nat.eq_zero_or_pos n with h0 | h0
  · subst h0
    clear h h'
    go_enter Tryd.func20, Tryd.ntmps20
    go_wp2_with fail
    go_loopw [5] (fun i wr => i = .int .i64 0 ∧ wr = w) (fun _ _ => 0)
    case atStart => exact ⟨rfl, rfl⟩
    case round =>
      obtain ⟨rfl, rfl⟩ := hrel
      go_wp2_with fail
      go_ret
      exact ⟨rfl, Below.refl _ _⟩
  · obtain ⟨hc1, hc2, h3⟩ := h
    obtain ⟨hc1', hc2', h3'⟩ := h'
    obtain ⟨b, off, rfl, hlt, hcell⟩ := h3 h0
    obtain ⟨b', off', rfl, hlt', hcell'⟩ := h3' h0
    have HC := Lib.hid hcell
    have HC' := Lib.hid hcell'
    clear h3 h3' hcell hcell'
    go_enter Tryd.func20, Tryd.ntmps20
    go_wp2_with fail
    go_loopw [5] (fun i wr => ∃ k : Nat, k ≤ n ∧ i = .int .i64 k ∧ Below w.heap.size w wr) (fun i _ => n - (intOf i).toNat)
    case atStart => exact ⟨0, Nat.zero_le _, rfl, Below.refl _ _⟩
    case round =>
      obtain ⟨k, hk, rfl, hbel⟩ := hrel
      have HB := Lib.hid hbel
      by_cases hkn : k < n
      · have t1 := (hbel.cell (p := ⟨b, off + k, none⟩) hlt).trans (HC.out k hkn)
        have t2 := (hbel.cell (p := ⟨b', off' + k, none⟩) hlt').trans (HC'.out k hkn)
        obtain ⟨x, hx⟩ : ∃ x, X k = x := ⟨_, rfl⟩
        rw [hx] at t1 t2
        have hq : (x.toList == x.toList) = true := by simp
        clear hx hbel
        go_wp2_with fail
        go_quiet (fail)
        go_wp2_with fail
        go_roundw
        case rel => exact ⟨k + 1, by omega, by go_num, ⟨HB.out.os, HB.out.tape, HB.out.output, HB.out.size, HB.out.block⟩⟩
        case measure => simp [intOf]; omega
      · obtain rfl : k = n := by omega
        go_wp2_with fail
        go_ret
        exact ⟨rfl, hbel⟩
end Go.Proofs.YtmpeolnnfblbkaaDoor.sf
