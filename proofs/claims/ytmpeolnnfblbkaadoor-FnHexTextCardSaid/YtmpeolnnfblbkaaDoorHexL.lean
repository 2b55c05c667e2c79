/- Hexadecimal text, as plain lists of bytes. -/
import Derived.Test.YtmpeolnnfblbkaaDoorBase
namespace Go.Proofs.YtmpeolnnfblbkaaDoor.hex
set_option linter.unusedVariables false

/-- a figure's byte -/
def fig (x : Nat) : Nat := if x < 10 then 48 + x else 87 + x
def figB (x : Nat) : UInt8 := UInt8.ofNat (fig x)
theorem fig_lt {x : Nat} (h : x < 16) : fig x < 256 := by unfold fig; split <;> omega
theorem figB_toNat {x : Nat} (h : x < 16) : (figB x).toNat = fig x := by
  unfold figB
  rw [UInt8.toNat_ofNat']
  exact Nat.mod_eq_of_lt (fig_lt h)
def two (b : UInt8) : List UInt8 := [figB (b.toNat / 16), figB (b.toNat % 16)]
def enc (l : List UInt8) : List UInt8 := l.flatMap two
theorem enc_nil : enc [] = [] := rfl
theorem enc_snoc (l : List UInt8) (b : UInt8) : enc (l ++ [b]) = enc l ++ [figB (b.toNat / 16), figB (b.toNat % 16)] := by simp [enc, two]
theorem enc_cons (b : UInt8) (l : List UInt8) : enc (b :: l) = figB (b.toNat / 16) :: figB (b.toNat % 16) :: enc l := by simp [enc, two]
theorem enc_length (l : List UInt8) : (enc l).length = 2 * l.length := by
  induction l with
  | nil => rfl
  | cons b l ih => rw [enc_cons]; simp [ih]; omega

/-- a figure's value; -1 for another byte -/
def val (b : UInt8) : Int := if 48 ≤ b.toNat ∧ b.toNat ≤ 57 then (b.toNat : Int) - 48 else if 97 ≤ b.toNat ∧ b.toNat ≤ 102 then (b.toNat : Int) - 87 else -1
theorem val_lt (b : UInt8) : -1 ≤ val b ∧ val b ≤ 15 := by unfold val; split <;> (try split) <;> omega
theorem val_fig {x : Nat} (h : x < 16) : val (figB x) = x := by
  unfold val
  rw [figB_toNat h]
  unfold fig
  split <;> (try split) <;> omega

/-- pair j of a text -/
def pr (s : ByteArray) (j : Nat) : UInt8 × UInt8 := (s.data.toList.getD (2 * j) 0, s.data.toList.getD (2 * j + 1) 0)
def okP (s : ByteArray) (j : Nat) : Bool := decide (0 ≤ val (pr s j).1) && decide (0 ≤ val (pr s j).2)
def byteP (s : ByteArray) (j : Nat) : UInt8 := UInt8.ofNat (16 * val (pr s j).1 + val (pr s j).2).toNat
/-- the first k bytes that are told -/
def decAt (s : ByteArray) (k : Nat) : List UInt8 := (List.range k).map (byteP s)
theorem decAt_zero (s : ByteArray) : decAt s 0 = [] := rfl
theorem decAt_succ (s : ByteArray) (k : Nat) : decAt s (k + 1) = decAt s k ++ [byteP s k] := by simp [decAt, List.range_succ]
theorem decAt_get (s : ByteArray) (k j : Nat) (h : j < (decAt s k).length) : (decAt s k)[j] = byteP s j := by simp [decAt]
theorem decAt_length (s : ByteArray) (k : Nat) : (decAt s k).length = k := by simp [decAt]
/-- can the text be decoded? -/
def decOk (s : ByteArray) : Bool := decide (s.size % 2 = 0) && decide (s.size ≤ 40000) && (List.range (s.size / 2)).all (okP s)
def decV (s : ByteArray) : List UInt8 := if decOk s then decAt s (s.size / 2) else []
theorem decOk_odd {s : ByteArray} (h : s.size % 2 ≠ 0) : decOk s = false := by unfold decOk; rw [decide_eq_false h]; rfl
theorem decOk_long {s : ByteArray} (h : ¬ s.size ≤ 40000) : decOk s = false := by unfold decOk; rw [decide_eq_false h, Bool.and_false]; rfl
theorem decOk_bad {s : ByteArray} {k : Nat} (hk : k < s.size / 2) (h : okP s k = false) : decOk s = false := by
  cases hd : decOk s with
  | false => rfl
  | true =>
    unfold decOk at hd
    have := List.all_eq_true.1 (Bool.and_eq_true_iff.1 hd).2 k (by simp; exact hk)
    rw [h] at this; cases this
theorem decOk_good {s : ByteArray} (h1 : s.size % 2 = 0) (h2 : s.size ≤ 40000) (h : ∀ k, k < s.size / 2 → okP s k = true) : decOk s = true := by
  unfold decOk
  rw [decide_eq_true h1, decide_eq_true h2]
  simp only [Bool.and_true, Bool.true_and]
  exact List.all_eq_true.2 fun k hk => h k (by simpa using hk)
theorem decV_of {s : ByteArray} (h : decOk s = false) : decV s = [] := by unfold decV; rw [h]; rfl
theorem decV_good {s : ByteArray} (h : decOk s = true) : decV s = decAt s (s.size / 2) := by unfold decV; rw [h]; rfl

theorem enc_getD (l : List UInt8) (j : Nat) (h : j < l.length) : (enc l).getD (2 * j) 0 = figB ((l.getD j 0).toNat / 16) ∧ (enc l).getD (2 * j + 1) 0 = figB ((l.getD j 0).toNat % 16) := by
  induction l generalizing j with
  | nil => simp at h
  | cons b l ih =>
    rw [enc_cons]
    cases j with
    | zero => simp
    | succ j =>
      have := ih j (by simpa using h)
      rw [show 2 * (j + 1) = 2 * j + 1 + 1 by omega]
      simpa using this

/-- what is encoded is decoded -/
theorem dec_enc (l : List UInt8) (h : l.length ≤ 20000) : decOk ⟨(enc l).toArray⟩ = true ∧ decV ⟨(enc l).toArray⟩ = l := by
  have hsz : (⟨(enc l).toArray⟩ : ByteArray).size = 2 * l.length := by
    show (enc l).toArray.size = _
    simp [enc_length]
  have hp : ∀ k, k < l.length → pr ⟨(enc l).toArray⟩ k = (figB ((l.getD k 0).toNat / 16), figB ((l.getD k 0).toNat % 16)) := by
    intro k hk
    obtain ⟨e1, e2⟩ := enc_getD l k hk
    unfold pr
    show ((enc l).getD (2 * k) 0, (enc l).getD (2 * k + 1) 0) = _
    rw [e1, e2]
  have hb : ∀ b : UInt8, b.toNat < 256 := fun b => b.toNat_lt
  have hok : decOk ⟨(enc l).toArray⟩ = true := by
    refine decOk_good (by rw [hsz]; omega) (by rw [hsz]; omega) fun k hk => ?_
    rw [hsz] at hk
    unfold okP
    rw [hp k (by omega)]
    have := hb (l.getD k 0)
    rw [val_fig (by omega), val_fig (by omega)]
    rw [decide_eq_true (by omega), decide_eq_true (by omega)]
    rfl
  refine ⟨hok, ?_⟩
  rw [decV_good hok, hsz, show 2 * l.length / 2 = l.length by omega]
  apply List.ext_getElem
  · rw [decAt_length]
  intro k h1 h2
  rw [decAt_get]
  unfold byteP
  rw [hp k h2]
  have := hb (l.getD k 0)
  rw [val_fig (by omega), val_fig (by omega)]
  have e : (16 * (((l.getD k 0).toNat / 16 : Nat) : Int) + (((l.getD k 0).toNat % 16 : Nat) : Int)).toNat = (l.getD k 0).toNat := by omega
  rw [e, UInt8.ofNat_toNat]
  simp [List.getD, h2]
end Go.Proofs.YtmpeolnnfblbkaaDoor.hex
