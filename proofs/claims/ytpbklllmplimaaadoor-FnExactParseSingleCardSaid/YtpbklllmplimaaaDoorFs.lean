/- FormatSingle in both packages, walked: both give one and the same text. -/
import Derived.Test.YtpbklllmplimaaaDoorSplitI
import Derived.Test.YtpbklllmplimaaaDoorSplitS
import Derived.Test.YtpbklllmplimaaaDoorSignTextS
import Derived.Test.YtpbklllmplimaaaDoorSignTextI
import Derived.Test.YtpbklllmplimaaaDoorAgain
import Derived.Test.YtpbklllmplimaaaDoorFmt
import Derived.Test.YtpbklllmplimaaaDoorMk
namespace Go.Proofs.YtpbklllmplimaaaDoor.same
open Go.RowKit Fl base fmt
set_option linter.unusedVariables false

def sgc (x : Nat) : UInt8 := if ng S x then 45 else 43
theorem tx_sgc {x : Nat} (h : num S x = true) : signTx x = ⟨#[sgc x]⟩ := by
  unfold signTx sgc; rw [h]; cases ng S x <;> rfl
/-- the text of a single -/
inductive Fs (x : Nat) : List UInt8 → Prop
  | nan (h : num S x = false) : Fs x [110, 97, 110]
  | inf (h : num S x = true) (hf : fin S x = false) : Fs x [sgc x, 105, 110, 102]
  | zero (hf : fin S x = true) (h0 : rg S x = 0) : Fs x [sgc x, 48]
  | yes (hf : fin S x = true) (h0 : rg S x ≠ 0) (m e : Int) (hs : Split x m e true) : Fs x (sgc x :: (Lib.itoa m ++ 112 :: Lib.itoa e))
theorem Fs.unique {x : Nat} {l l' : List UInt8} (h : Fs x l) (h' : Fs x l') : l = l' := by
  cases h with
  | nan h =>
    cases h' with
    | nan => rfl
    | inf h2 => rw [h] at h2; cases h2
    | zero h2 => rw [num_of_fin h2] at h; cases h
    | yes h2 => rw [num_of_fin h2] at h; cases h
  | inf h hf =>
    cases h' with
    | nan h2 => rw [h2] at h; cases h
    | inf => rfl
    | zero h2 => rw [hf] at h2; cases h2
    | yes h2 => rw [hf] at h2; cases h2
  | zero hf h0 =>
    cases h' with
    | nan h2 => rw [num_of_fin hf] at h2; cases h2
    | inf _ h2 => rw [hf] at h2; cases h2
    | zero => rfl
    | yes _ h2 => exact absurd h0 h2
  | yes hf h0 m e hs =>
    cases h' with
    | nan h2 => rw [num_of_fin hf] at h2; cases h2
    | inf _ h2 => rw [hf] at h2; cases h2
    | zero _ h2 => exact absurd h2 h0
    | yes _ _ m' e' hs' =>
      obtain ⟨rfl, rfl, _⟩ := hs.unique hs'
      rfl
/-- bounds of what a single is split into -/
theorem split_range {x : Nat} {m e : Int} (h : Split x m e true) : 0 ≤ m ∧ m ≤ 16777215 ∧ -149 ≤ e ∧ e ≤ 127 := by
  cases h with
  | zero => omega
  | yes hf h0 M j hM hj =>
    obtain ⟨h1, h2, h3⟩ := split_bounds hf h0 hM hj
    omega
theorem split_zero {x : Nat} {m e : Int} (h : Split x m e true) : m = 0 ↔ rg S x = 0 := by
  cases h with
  | zero _ h0 => exact ⟨fun _ => h0, fun _ => rfl⟩
  | yes hf h0 M j hM hj => exact ⟨fun h => by omega, fun h => absurd h h0⟩
theorem cat4 (c : UInt8) (a b : List UInt8) : ((((⟨#[c]⟩ : ByteArray) ++ ⟨a.toArray⟩) ++ ⟨#[112]⟩) ++ ⟨b.toArray⟩) = ⟨(c :: (a ++ 112 :: b)).toArray⟩ := by
  have e : ∀ x y : List UInt8, (⟨x.toArray⟩ : ByteArray) ++ ⟨y.toArray⟩ = ⟨(x ++ y).toArray⟩ := fun x y => by rw [ByteArray.mk_append_mk]
  show ((((⟨[c].toArray⟩ : ByteArray) ++ ⟨a.toArray⟩) ++ ⟨[112].toArray⟩) ++ ⟨b.toArray⟩) = _
  rw [e, e, e]; simp
theorem isInf_fin {x : Nat} (h : fin S x = true) : (rg D (up x) == D.infRung) = false := by
  have := fin_iff.1 (up_fin h).2.1
  exact beq_eq_false_iff_ne.2 (by omega)
theorem isInf_inf {x : Nat} (h : num S x = true) (hf : fin S x = false) : (rg D (up x) == D.infRung) = true := by
  have hri : rg S x = S.infRung := by
    have h1 := num_iff.1 h
    have h2 : ¬ rg S x < S.infRung := fun h => by rw [fin_iff.2 h] at hf; cases hf
    omega
  rw [(up_inf hri).2, rg_inf]; simp
def FsE (x : Nat) (w : World) (en : Ending) (w' : World) : Prop := ∃ l, Fs x l ∧ en = .returned (.string ⟨l.toArray⟩) ∧ Below w.heap.size w w'
theorem itoa_len {n : Int} (h0 : -149 ≤ n) (h1 : n ≤ 16777215) : (Lib.itoa n).length ≤ 21 := Lib.itoa_length_le n (by omega) (by omega)

set_option maxHeartbeats 1000000 in
theorem spec_FormatSingle (x : Nat) (hx : x < 2 ^ 32) (w : World) : Calls Tryd.prog 18 #[.float .f32 x] w (FsE x w) := by
  cases hn : num S x with
  | false =>
    have HS := Lib.hid (Fs.nan hn)
    have h1 := ordNanL hn x
    clear hn
    go_enter Tryd.func18, Tryd.ntmps18
    go_wp2_with fail
    go_ret
    exact ⟨_, HS.out, rfl, Below.refl _ _⟩
  | true =>
    have h1 := ordSelf hn
    have HT := Lib.hid (tx_sgc hn)
    have HN := Lib.hid hn
    clear hn
    go_enter Tryd.func18, Tryd.ntmps18
    go_wp2_with fail
    refine (spec_SplitSingle x hx _).mono ?_
    rintro en w1 ⟨m, e, ok, rfl, hs, p, rfl⟩
    cases ok with
    | false =>
      have HS := Lib.hid (Fs.inf HN.out (split_no hs).2.2)
      clear hs
      go_wp2_with fail
      refine (spec_SignText x _).mono ?_
      rintro en w2 ⟨rfl, rfl⟩
      rw [HT.out]
      go_wp2_with fail
      go_ret
      exact ⟨_, HS.out, rfl, below_dn (Below.refl _ _) _⟩
    | true =>
      obtain ⟨m0, m1, e0, e1⟩ := split_range hs
      by_cases hz : m = 0
      · have HS := Lib.hid (Fs.zero (split_fin hs) ((split_zero hs).1 hz))
        subst hz
        clear hs
        go_wp2_with fail
        refine (spec_SignText x _).mono ?_
        rintro en w2 ⟨rfl, rfl⟩
        rw [HT.out]
        go_wp2_with fail
        go_ret
        exact ⟨_, HS.out, rfl, below_dn (Below.refl _ _) _⟩
      · have hzb : (m == 0) = false := beq_eq_false_iff_ne.2 hz
        have HS := Lib.hid (Fs.yes (split_fin hs) (fun h => hz ((split_zero hs).2 h)) m e hs)
        have l1 := itoa_len (n := m) (by omega) m1
        have l2 := itoa_len (n := e) e0 (by omega)
        clear hs hz
        go_wp2_with fail
        refine (spec_SignText x _).mono ?_
        rintro en w2 ⟨rfl, rfl⟩
        rw [HT.out]
        go_wp2_with fail
        refine (spec_FormatInt m (by omega) (by omega) _).mono ?_
        rintro en w2 ⟨rfl, b2⟩
        have HB2 := Lib.hid b2
        clear b2
        go_wp2_with fail
        refine (spec_FormatInt e (by omega) (by omega) _).mono ?_
        rintro en w3 ⟨rfl, b3⟩
        have HB3 := Lib.hid ((HB2.out.trans (b3.mono HB2.out.size)))
        clear b3
        go_wp2_with fail
        go_ret
        refine ⟨_, HS.out, ?_, (below_dn (Below.refl _ _) p).trans HB3.out⟩
        rw [← cat4]; rfl
set_option maxHeartbeats 1000000 in
theorem impl_FormatSingle (x : Nat) (hx : x < 2 ^ 32) (w : World) (ht : tab.Tab w) : Calls Tryd.prog 12 #[.float .f32 x] w (FsE x w) := by
  have HTB := Lib.hid ht
  clear ht
  cases hn : num S x with
  | false =>
    have HS := Lib.hid (Fs.nan hn)
    have h1 := ordNanL hn x
    clear hn
    go_enter Tryd.func12, Tryd.ntmps12
    go_wp2_with fail
    go_ret
    exact ⟨_, HS.out, rfl, Below.refl _ _⟩
  | true =>
  have h1 := ordSelf hn
  have HT := Lib.hid (tx_sgc hn)
  obtain ⟨c1, c2, c3, c4⟩ := up_num hn
  have hcv : ∀ W : World, (convert 22 26 (.float .f32 x)).run Tryd.prog W = .ok (.float .f64 (up x)) W := fun W =>
    run_convert_float_float W 22 26 .f32 .f64 x _ (by rw [Tryd.underlying22]; rfl) Tryd.underlying26 c1
  have H4 := Lib.hid c4
  clear c1 c2 c3 c4
  cases hf : fin S x with
  | false =>
    have HS := Lib.hid (Fs.inf hn hf)
    have HI := Lib.hid (isInf_inf hn hf)
    clear hn hf
    go_enter Tryd.func12, Tryd.ntmps12
    go_wp2_with fail
    refine (isInf _ H4.out _).mono ?_
    rintro en w1 ⟨rfl, rfl⟩
    rw [HI.out]
    go_wp2_with fail
    refine (impl_SignText x _).mono ?_
    rintro en w2 ⟨rfl, rfl⟩
    rw [HT.out]
    go_wp2_with fail
    go_ret
    exact ⟨_, HS.out, rfl, Below.refl _ _⟩
  | true =>
  have HI := Lib.hid (isInf_fin hf)
  by_cases hz : rg S x = 0
  · have HS := Lib.hid (Fs.zero hf hz)
    have ho : S.order x 0 = some .eq := ordEq (k := .f32) (num_of_fin hf) (num_zero _) (by rw [key_zero]; exact key_eq_zero.2 hz)
    clear hz hf hn
    go_enter Tryd.func12, Tryd.ntmps12
    go_wp2_with fail
    refine (isInf _ H4.out _).mono ?_
    rintro en w1 ⟨rfl, rfl⟩
    rw [HI.out]
    go_wp2_with fail
    refine (impl_SignText x _).mono ?_
    rintro en w2 ⟨rfl, rfl⟩
    rw [HT.out]
    go_wp2_with fail
    go_ret
    exact ⟨_, HS.out, rfl, Below.refl _ _⟩
  · have ho : S.order x 0 = some .gt ∨ S.order x 0 = some .lt := by
      rcases Int.lt_trichotomy (key S x) 0 with h | h | h
      · exact Or.inr (ordLt (k := .f32) (num_of_fin hf) (num_zero _) (by rw [key_zero]; exact h))
      · exact absurd (key_eq_zero.1 h) hz
      · exact Or.inl (ordGt (k := .f32) (num_of_fin hf) (num_zero _) (by rw [key_zero]; exact h))
    have HF := Lib.hid hf
    have HZ := Lib.hid hz
    clear hz hf hn
    rcases ho with ho | ho
    all_goals
      (go_enter Tryd.func12, Tryd.ntmps12
       go_wp2_with fail
       refine (isInf _ H4.out _).mono ?_
       rintro en w1 ⟨rfl, rfl⟩
       rw [HI.out]
       go_wp2_with fail
       refine (impl_SplitSingle x hx _).mono ?_
       rintro en w1 ⟨m, e, ok, rfl, hs, p, rfl⟩
       obtain rfl : ok = true := by
         cases ok with
         | true => rfl
         | false => have := (split_no hs).2.2; rw [HF.out] at this; cases this
       obtain ⟨m0, m1, e0, e1⟩ := split_range hs
       have HS := Lib.hid (Fs.yes HF.out HZ.out m e hs)
       have l1 := itoa_len (n := m) (by omega) m1
       have l2 := itoa_len (n := e) e0 (by omega)
       clear hs
       go_wp2_with fail
       refine (impl_SignText x _).mono ?_
       rintro en w2 ⟨rfl, rfl⟩
       rw [HT.out]
       go_wp2_with fail
       refine (tab.formatInt m (by omega) (by omega) _ (HTB.out.below (Nat.le_refl _) (below_dn (Below.refl _ _) p))).mono ?_
       rintro en w2 ⟨rfl, b2, t2⟩
       have HB2 := Lib.hid b2
       have HT2 := Lib.hid t2
       clear b2 t2
       go_wp2_with fail
       refine (tab.formatInt e (by omega) (by omega) _ HT2.out).mono ?_
       rintro en w3 ⟨rfl, b3, _⟩
       have HB3 := Lib.hid ((HB2.out.trans (b3.mono HB2.out.size)))
       clear b3
       go_wp2_with fail
       go_ret
       refine ⟨_, HS.out, ?_, (below_dn (Below.refl _ _) p).trans HB3.out⟩
       rw [← cat4]; rfl)
end Go.Proofs.YtpbklllmplimaaaDoor.same
