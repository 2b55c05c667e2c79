/- ReadDecimal in package spec, walked. -/
import Derived.Test.YtpbklllmplimaaaDecF
import Derived.Test.YtpbklllmplimaaaSignedS
import Derived.LoopTactic
import Derived.IntWalk
import Derived.Outline
namespace Go.Proofs.Ytpbklllmplimaaa.dec
open Go.RowKit Fl same base
set_option linter.unusedVariables false

/-- the state of the loop over the text: before the point, behind it -/
inductive Ph (r : List UInt8) (t : Nat) : Value → Value → Value → Prop
  | zero (h : (r.take t).all isDig = true) : Ph r t (.int .i64 (dv (r.take t) : Nat)) (.int .i64 (t : Nat)) (.int .i64 (-1))
  | one (q : Nat) (h0 : 1 ≤ q) (hq : q < t) (h1 : q + 1 < r.length) (h2 : r[q]? = some 46) (h3 : (r.take q).all isDig = true) (h4 : ((r.drop (q + 1)).take (t - (q + 1))).all isDig = true) :
      Ph r t (.int .i64 (dv (r.take q ++ (r.drop (q + 1)).take (t - (q + 1))) : Nat)) (.int .i64 ((t : Nat) - 1)) (.int .i64 ((q : Nat) + 1))

theorem take_snoc' {α : Type} {r : List α} {t : Nat} {c : α} (h : r[t]? = some c) : r.take (t + 1) = r.take t ++ [c] := by
  have hlt := (List.getElem?_eq_some_iff.1 h).1
  rw [List.take_succ_eq_append_getElem hlt]
  rw [(List.getElem?_eq_some_iff.1 h).2]
theorem drop_snoc {α : Type} {r : List α} {t q : Nat} {c : α} (h : r[t]? = some c) (hq : q < t) : (r.drop (q + 1)).take (t + 1 - (q + 1)) = (r.drop (q + 1)).take (t - (q + 1)) ++ [c] := by
  rw [show t + 1 - (q + 1) = t - (q + 1) + 1 by omega]
  refine take_snoc' ?_
  rw [List.getElem?_drop, show q + 1 + (t - (q + 1)) = t by omega]
  exact h
theorem lst_bound {l : List UInt8} {n : Nat} (h : l.all isDig = true) (hl : l.length ≤ n) (hn : n ≤ 16) : dv l < 10000000000000000 := by
  have h1 := dv_lt l h
  have h2 : 10 ^ l.length ≤ 10 ^ 16 := Nat.pow_le_pow_right (by omega) (by omega)
  omega

/-- a figure more -/
theorem Ph.step {r : List UInt8} {t : Nat} {c : UInt8} {d k p : Value} (h : Ph r t d k p) (hc : r[t]? = some c) (hd : isDig c = true) :
    ∃ dd kk : Int, d = .int .i64 dd ∧ k = .int .i64 kk ∧ Ph r (t + 1) (.int .i64 (10 * dd + (c.toNat : Int) - 48)) (.int .i64 (kk + 1)) p := by
  have hb := (isDig_iff c).1 hd
  cases h with
  | zero h =>
    refine ⟨_, _, rfl, rfl, ?_⟩
    have e := take_snoc' hc
    have := Ph.zero (r := r) (t := t + 1) (by rw [e]; exact all_snoc h hd)
    rw [e, dv_snoc] at this
    have e1 : ((10 * dv (r.take t) + (c.toNat - 48) : Nat) : Int) = 10 * (dv (r.take t) : Int) + (c.toNat : Int) - 48 := by omega
    rw [e1] at this
    exact this
  | one q h0 hq h1 h2 h3 h4 =>
    refine ⟨_, _, rfl, rfl, ?_⟩
    have e := drop_snoc hc hq
    have := Ph.one (r := r) (t := t + 1) q h0 (by omega) h1 h2 h3 (by rw [e]; exact all_snoc h4 hd)
    rw [e, ← List.append_assoc, dv_snoc] at this
    have e1 : ((10 * dv (r.take q ++ (r.drop (q + 1)).take (t - (q + 1))) + (c.toNat - 48) : Nat) : Int) = 10 * (dv (r.take q ++ (r.drop (q + 1)).take (t - (q + 1))) : Int) + (c.toNat : Int) - 48 := by omega
    have e2 : ((t + 1 : Nat) : Int) - 1 = (t : Int) - 1 + 1 := by omega
    rw [e1, e2] at this
    exact this
/-- what is told so far, bounded -/
theorem Ph.bound {r : List UInt8} {t : Nat} {d k p : Value} (h : Ph r t d k p) (ht : t ≤ 16) : ∃ dd kk pp : Int, d = .int .i64 dd ∧ k = .int .i64 kk ∧ p = .int .i64 pp ∧ 0 ≤ dd ∧ dd < 10000000000000000 ∧ 0 ≤ kk ∧ kk ≤ 16 ∧ -1 ≤ pp ∧ pp ≤ 16 ∧ (pp = -1 ∨ 2 ≤ pp) := by
  cases h with
  | zero h =>
    have := lst_bound h (n := t) (by simp; omega) ht
    exact ⟨_, _, _, rfl, rfl, rfl, by omega, by omega, by omega, by omega, by omega, by omega, Or.inl rfl⟩
  | one q h0 hq h1 h2 h3 h4 =>
    have := lst_bound (l := r.take q ++ (r.drop (q + 1)).take (t - (q + 1))) (by rw [List.all_append, h3, h4]; rfl) (n := t) (by simp; omega) ht
    exact ⟨_, _, _, rfl, rfl, rfl, by omega, by omega, by omega, by omega, by omega, by omega, Or.inr (by omega)⟩
/-- a byte that is no figure, where a point is not taken: no number -/
theorem Ph.bad {r : List UInt8} {t : Nat} {c : UInt8} {d k : Value} {pp : Int} (h : Ph r t d k (.int .i64 pp)) (hc : r[t]? = some c) (hd : isDig c = false) (hp : ¬ (c = 46 ∧ pp < 0 ∧ 1 ≤ t ∧ t + 1 < r.length)) : good r = false := by
  by_cases h46 : c = 46
  · subst h46
    cases h with
    | zero h =>
      rw [(good_at hc h).1]
      by_cases h1 : 1 ≤ t
      · by_cases h2 : t + 1 < r.length
        · exact absurd ⟨rfl, by omega, h1, h2⟩ hp
        · rw [decide_eq_false h2]; simp
      · rw [decide_eq_false h1]; simp
    | one q h0 hq h1 h2 h3 h4 =>
      rw [(good_at h2 h3).1]
      have : (r.drop (q + 1)).all isDig = false := by
        cases ha : (r.drop (q + 1)).all isDig with
        | false => rfl
        | true =>
          have hm : (46 : UInt8) ∈ r.drop (q + 1) := by
            refine List.mem_of_getElem? (i := t - (q + 1)) ?_
            rw [List.getElem?_drop, show q + 1 + (t - (q + 1)) = t by omega]; exact hc
          have := List.all_eq_true.1 ha _ hm
          rw [hd] at this; cases this
      rw [this]; simp
  · exact good_bad hc hd h46
/-- the point taken -/
theorem Ph.point {r : List UInt8} {t : Nat} {d k : Value} {pp : Int} (h : Ph r t d k (.int .i64 pp)) (hc : r[t]? = some 46) (hp : pp < 0) (h1 : 1 ≤ t) (h2 : t + 1 < r.length) : Ph r (t + 1) d k (.int .i64 ((t : Int) + 1)) := by
  cases h with
  | zero h =>
    have := Ph.one (r := r) (t := t + 1) t h1 (by omega) h2 hc h (by simp)
    rw [show t + 1 - (t + 1) = 0 by omega, List.take_zero, List.append_nil] at this
    have e2 : ((t + 1 : Nat) : Int) - 1 = (t : Int) := by omega
    rw [e2] at this
    exact this
  | one q h0 hq _ _ _ _ => omega
/-- the end -/
theorem Ph.done {r : List UInt8} {d k : Value} {pp : Int} (h : Ph r r.length d k (.int .i64 pp)) (hr : 1 ≤ r.length) :
    ∃ kk : Int, k = .int .i64 kk ∧ d = .int .i64 (dv (figs r) : Nat) ∧ good r = decide (kk ≤ 15) ∧ ((pp = -1 ∧ (tl r).tail.length = 0) ∨ (0 ≤ pp ∧ ((tl r).tail.length : Int) = r.length - pp)) := by
  cases h with
  | zero h =>
    rw [List.take_length] at h
    obtain ⟨g1, g2, g3⟩ := good_none h
    refine ⟨_, rfl, by rw [g2, List.take_length], ?_, Or.inl ⟨rfl, by rw [g3]; rfl⟩⟩
    rw [g1]
    have : r ≠ [] := List.length_pos_iff.1 (by omega)
    rw [decide_eq_true this, Bool.true_and]
    congr 1; apply propext; omega
  | one q h0 hq h1 h2 h3 h4 =>
    obtain ⟨g1, g2, g3⟩ := good_at h2 h3
    have e : (r.drop (q + 1)).take (r.length - (q + 1)) = r.drop (q + 1) := List.take_of_length_le (by simp)
    rw [e] at h4
    refine ⟨_, rfl, by rw [g2, e], ?_, Or.inr ⟨by omega, by rw [g3]; simp; omega⟩⟩
    rw [g1, h4, decide_eq_true h0, decide_eq_true h1]
    simp only [Bool.true_and]
    congr 1; apply propext; omega

set_option maxRecDepth 100000 in
set_option maxHeartbeats 4000000 in
theorem spec_ReadDecimal (s : ByteArray) (hm : s.size ≤ 9223372036854775807) (w : World) : Calls Try.prog 12 #[.string s] w (RdE s w) := by
  have hs64 : (Try.prog.underlying 26).isSome = true := by rw [Try.underlying26]; rfl
  by_cases hs : s.size < 2
  · have hb : good (rest s) = false := by
      cases h : good (rest s) with
      | false => rfl
      | true => have := good_len h; rw [rest_len] at this; omega
    have HR := Lib.hid (rd_bad hb)
    go_enter Try.func12, Try.ntmps12
    go_wp2_with fail
    go_ret2
    exact ⟨by (rw [HR.out.1, HR.out.2] <;> rfl), Below.refl _ _⟩
  by_cases hs2 : 17 < s.size
  · have hb : good (rest s) = false := by
      cases h : good (rest s) with
      | false => rfl
      | true => have := good_len h; rw [rest_len] at this; omega
    have HR := Lib.hid (rd_bad hb)
    go_enter Try.func12, Try.ntmps12
    go_wp2_with fail
    go_ret2
    exact ⟨by (rw [HR.out.1, HR.out.2] <;> rfl), Below.refl _ _⟩
  have hlen := rest_len s
  have HL : Hid ((rest s).length = s.size - 1) := hlen
  have hs3 : 2 ≤ s.size := by omega
  have hs4 : s.size ≤ 17 := by omega
  clear hlen hs hs2 hm
  go_enter Try.func12, Try.ntmps12
  go_wp2_with fail
  go_loop [4, 5, 6, 7] (fun d k p i => ∃ t : Nat, i = .int .i64 ((t : Int) + 1) ∧ t + 1 ≤ s.size ∧ Ph (rest s) t d k p) (fun _ _ _ i => s.size + 1 - (intOf i).toNat)
  case atStart => exact ⟨0, rfl, by omega, by simpa [dv] using Ph.zero (r := rest s) (t := 0) (by simp)⟩
  case round =>
    obtain ⟨t, rfl, ht, hph⟩ := hrel
    obtain ⟨dd, kk, pp, rfl, rfl, rfl, d0, d1, k0, k1, p0, p1, p2⟩ := hph.bound (by omega)
    have HPH := Lib.hid hph
    clear hph
    by_cases hlt : t + 1 < s.size
    · have HC := Lib.hid (rest_get s t hlt)
      have hb := s[t + 1].toNat_lt
      have l6 : ((t : Int) + 1).toNat = t + 1 := by omega
      cases hd : isDig s[t + 1] with
      | true =>
        obtain ⟨b1, b2⟩ := (isDig_iff _).1 hd
        have HD := Lib.hid hd
        have hne : ((s[t + 1].toNat : Int) == 46) = false := by simp; omega
        clear hd
        go_wp2_with fail
        go_round
        case rel =>
          obtain ⟨dd', kk', e1, e2, hst⟩ := HPH.out.step HC.out HD.out
          cases e1; cases e2
          exact ⟨t + 1, by go_num, by omega, hst⟩
        case measure => simp [intOf]; omega
      | false =>
        have hnd : s[t + 1].toNat < 48 ∨ 57 < s[t + 1].toNat := by
          have := mt (isDig_iff s[t + 1]).2 (by rw [hd]; simp); omega
        have HD := Lib.hid hd
        clear hd
        by_cases h46 : s[t + 1] = 46
        · have hne : ((s[t + 1].toNat : Int) == 46) = true := by rw [h46]; rfl
          have h48 : s[t + 1].toNat < 48 := by rw [h46]; decide
          by_cases hall : pp < 0 ∧ 1 ≤ t ∧ t + 2 < s.size
          · obtain ⟨a1, a2, a3⟩ := hall
            have HP := Lib.hid (HPH.out.point (by rw [HC.out, h46]) a1 a2 (by have := HL.out; omega))
            clear h46
            go_wp2_with fail
            go_round
            case rel => exact ⟨t + 1, by go_num, by omega, HP.out⟩
            case measure => simp [intOf]; omega
          · have hg : Hid (good (rest s) = false) := HPH.out.bad HC.out HD.out (fun h => hall ⟨h.2.1, h.2.2.1, by have := h.2.2.2; have := HL.out; omega⟩)
            have HR := Lib.hid (rd_bad hg.out)
            clear h46
            have hsp : ¬ pp < 0 ∨ (pp < 0 ∧ t < 1) ∨ (pp < 0 ∧ 1 ≤ t ∧ s.size ≤ t + 2) := by
              by_cases a1 : pp < 0
              · by_cases a2 : 1 ≤ t
                · exact Or.inr (Or.inr ⟨a1, a2, by
                    rcases Nat.lt_or_ge (t + 2) s.size with h | h
                    · exact absurd ⟨a1, a2, h⟩ hall
                    · exact h⟩)
                · exact Or.inr (Or.inl ⟨a1, by omega⟩)
              · exact Or.inl a1
            clear hall
            rcases hsp with a1 | ⟨a1, a2⟩ | ⟨a1, a2, a3⟩
            all_goals
              (go_wp2_with fail
               go_ret2
               exact ⟨by (rw [HR.out.1, HR.out.2] <;> rfl), Below.refl _ _⟩)
        · have hne : ((s[t + 1].toNat : Int) == 46) = false := by
            have : s[t + 1].toNat ≠ 46 := fun h => h46 (UInt8.toNat_inj.1 (by rw [h]; rfl))
            simp; omega
          have hg : Hid (good (rest s) = false) := HPH.out.bad HC.out HD.out (fun h => h46 h.1)
          have HR := Lib.hid (rd_bad hg.out)
          clear h46
          rcases hnd with h48 | h48
          all_goals
            (go_wp2_with fail
             go_ret2
             exact ⟨by (rw [HR.out.1, HR.out.2] <;> rfl), Below.refl _ _⟩)
    · obtain rfl : t = s.size - 1 := by omega
      have hdone := HPH.out
      rw [← HL.out] at hdone
      obtain ⟨kk', e1, e2, hgd, hpt⟩ := hdone.done (by have := HL.out; omega)
      cases e1
      have HE := Lib.hid e2
      have HGD := Lib.hid hgd
      have HPT := Lib.hid hpt
      clear e2 hgd hpt hdone
      by_cases hkk : kk ≤ 15
      · have hg : Hid (good (rest s) = true) := by show _ = _; rw [HGD.out, decide_eq_true hkk]
        have HR := Lib.hid (rd_good hg.out)
        obtain ⟨hdb, hkb⟩ := dv_bound hg.out
        obtain ⟨D, hD⟩ : ∃ D : Nat, dv (figs (rest s)) = D := ⟨_, rfl⟩
        obtain ⟨K, hK⟩ : ∃ K : Nat, (tl (rest s)).tail.length = K := ⟨_, rfl⟩
        have HHD := Lib.hid hD
        have HHK := Lib.hid hK
        rw [hD] at hdb
        rw [hK] at hkb
        have hdd : dd = (D : Int) := by have := HE.out; rw [hD] at this; cases this; rfl
        have HRR := Lib.hid (rd_run hdb hkb)
        have hpt2 : (pp = -1 ∧ K ≤ 0) ∨ (0 ≤ pp ∧ (K : Int) ≤ (s.size : Int) - 1 - pp ∧ (s.size : Int) - 1 - pp ≤ (K : Int)) := by
          have h1 := HPT.out
          have h2 := HL.out
          rw [hK] at h1
          rcases h1 with ⟨a, b⟩ | ⟨a, b⟩
          · exact Or.inl ⟨a, by omega⟩
          · exact Or.inr ⟨a, by omega, by omega⟩
        subst hdd
        clear hD hK hlt hdb d0 d1 k0 k1
        rcases hpt2 with ⟨rfl, a2⟩ | ⟨a1, a2, a3⟩
        all_goals
          go_wp2_with fail
          go_loop [9, 10] (fun b i => ∃ j : Nat, i = .int .i64 j ∧ j ≤ K ∧ b = .float .f64 (tenW j)) (fun _ i => K - (intOf i).toNat)
          case atStart => exact ⟨0, rfl, Nat.zero_le _, by rw [tenW_zero]⟩
          case round =>
            obtain ⟨j, rfl, hj, rfl⟩ := hrel
            by_cases hjK : j < K
            · have q1 := fun W : World => run_float_arith (P := Try.prog) W .mul 26 .f64 _ _ _ (ten_step (k := j) (by omega))
              go_wp2_with fail
              all_goals
                (go_round
                 case rel => exact ⟨j + 1, by go_num, by omega, rfl⟩
                 case measure => simp [intOf]; omega)
            · obtain rfl : j = K := by omega
              obtain ⟨r1, r2, r3⟩ := HRR.out
              have q1 := fun W : World => run_float_arith (P := Try.prog) W .quo 26 .f64 _ _ _ r1
              have q2 := fun W : World => run_convert_float_float (P := Try.prog) W 26 22 .f64 .f32 _ _ hs64 Try.underlying22 r2
              clear r1 r2 r3
              go_wp2_with fail
              refine (spec_Signed (s.extract 0 1) _ _).mono ?_
              rintro en w1 ⟨rfl, rfl⟩
              go_wp2_with fail
              go_ret2
              exact ⟨by (rw [HR.out.1, HR.out.2, HHD.out, HHK.out] <;> rfl), Below.refl _ _⟩
      · have hg : Hid (good (rest s) = false) := by show _ = _; rw [HGD.out, decide_eq_false hkk]
        have HR := Lib.hid (rd_bad hg.out)
        go_wp2_with fail
        go_ret2
        exact ⟨by (rw [HR.out.1, HR.out.2] <;> rfl), Below.refl _ _⟩
end Go.Proofs.Ytpbklllmplimaaa.dec
