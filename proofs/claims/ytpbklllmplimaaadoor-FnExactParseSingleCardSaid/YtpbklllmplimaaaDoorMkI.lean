/- MakeSingle in package impl, walked. -/
import Derived.Test.YtpbklllmplimaaaDoorMk
import Derived.Test.YtpbklllmplimaaaDoorLdexp
import Derived.Test.YtpbklllmplimaaaDoorFinS
import Derived.Test.YtpbklllmplimaaaDoorSignedI
import Derived.Test.YtpbklllmplimaaaDoorWithin
import Derived.Outline
namespace Go.Proofs.YtpbklllmplimaaaDoor.same
open Go.RowKit Fl base
set_option linter.unusedVariables false

set_option maxRecDepth 100000 in
set_option maxHeartbeats 2000000 in
theorem impl_MakeSingle (s : ByteArray) (m e : Int) (w : World) :
    Calls Tryd.prog 28 #[.string s, .int .i64 m, .int .i64 e] w (MkE s m e w) := by
  cases hs : sgnOk s with
  | false =>
    have hok : Hid (mkOk s m e = false) := mkOk_sign hs
    have hv : Hid (mkV s m e = 0) := mkV_no hok.out
    have hs1 : (s.toList == [43]) = false ∧ (s.toList == [45]) = false := by unfold sgnOk at hs; simpa using hs
    obtain ⟨h1, h2⟩ := hs1
    clear hs
    go_enter Tryd.func28, Tryd.ntmps28
    go_wp2_with fail
    go_ret2
    exact ⟨by (rw [hv.out, hok.out] <;> rfl), 0, rfl⟩
  | true =>
  have hs1 : ((s.toList == [43]) = true) ∨ ((s.toList == [43]) = false ∧ (s.toList == [45]) = true) := by
    unfold sgnOk at hs
    cases h : (s.toList == [43]) with
    | true => exact Or.inl rfl
    | false => rw [h, Bool.false_or] at hs; exact Or.inr ⟨rfl, hs⟩
  have HS := Lib.hid hs
  clear hs
  cases hm : inM m with
  | false =>
    have hok : Hid (mkOk s m e = false) := mkOk_m hm
    have hv : Hid (mkV s m e = 0) := mkV_no hok.out
    rcases hs1 with h1 | ⟨h1, h2⟩
    all_goals
      (go_enter Tryd.func28, Tryd.ntmps28
       go_wp2_with fail
       refine (inR.within_any _ _ _ _).mono ?_
       rintro en w2 ⟨rfl, rfl⟩
       rw [show decide (0 ≤ m ∧ m ≤ 16777215) = false from hm]
       go_wp2_with fail
       go_ret2
       exact ⟨by (rw [hv.out, hok.out] <;> rfl), 0, rfl⟩)
  | true =>
  cases he : inE e with
  | false =>
    have hok : Hid (mkOk s m e = false) := mkOk_e he
    have hv : Hid (mkV s m e = 0) := mkV_no hok.out
    rcases hs1 with h1 | ⟨h1, h2⟩
    all_goals
      (go_enter Tryd.func28, Tryd.ntmps28
       go_wp2_with fail
       refine (inR.within_any _ _ _ _).mono ?_
       rintro en w2 ⟨rfl, rfl⟩
       rw [show decide (0 ≤ m ∧ m ≤ 16777215) = true from hm]
       go_wp2_with fail
       refine (inR.within_any _ _ _ _).mono ?_
       rintro en w2 ⟨rfl, rfl⟩
       rw [show decide (-149 ≤ e ∧ e ≤ 127) = false from he]
       go_wp2_with fail
       go_ret2
       exact ⟨by (rw [hv.out, hok.out] <;> rfl), 0, rfl⟩)
  | true =>
  obtain ⟨m0, m1⟩ := of_decide_eq_true hm
  obtain ⟨e0, e1⟩ := of_decide_eq_true he
  have HMM := Lib.hid hm; have HEE := Lib.hid he
  have hs32 : (Tryd.prog.underlying 22).isSome = true := by rw [Tryd.underlying22]; rfl
  have hs64 : (Tryd.prog.underlying 26).isSome = true := by rw [Tryd.underlying26]; rfl
  have Z0 : Hid (isD (floatOfInt .f64 m) (m.toNat * 2 ^ e64)) := by
    have := ofInt64 (n := m.toNat) (by omega)
    rw [show ((m.toNat : Nat) : Int) = m by omega] at this
    exact this
  rcases hs1 with h1 | ⟨h1, h2⟩
  all_goals
    go_enter Tryd.func28, Tryd.ntmps28
    go_wp2_with fail
    refine (inR.within_any _ _ _ _).mono ?_
    rintro en w2 ⟨rfl, rfl⟩
    rw [show decide (0 ≤ m ∧ m ≤ 16777215) = true from HMM.out]
    go_wp2_with fail
    refine (inR.within_any _ _ _ _).mono ?_
    rintro en w2 ⟨rfl, rfl⟩
    rw [show decide (-149 ≤ e ∧ e ≤ 127) = true from HEE.out]
    go_wp2_with fail
    refine (ldexp_any _ m.toNat e Z0.out (by omega) e0 e1 _).mono ?_
    rintro en w2 ⟨z, rfl, hz, rfl⟩
    have HZ := Lib.hid hz
    clear hz
    have hxe : ((((e64 : Int) + e).toNat : Nat) : Int) = e64 + e := by rw [e64_eq]; omega
    have HD := Lib.hid (mk_down m0 m1 e0 HZ.out hxe)
    have HOV := fun hi => Lib.hid (mk_over (P := Tryd.prog) m0 m1 e0 HZ.out hxe hi 22 26 hs32 Tryd.underlying26)
    clear hxe
    by_cases hi : mkR m e < S.infRung
    · have hok : Hid (mkOk s m e = true) := mkOk_good HS.out HMM.out HEE.out hi
      have hv : Hid (mkV s m e = sgnV s (mkR m e)) := mkV_yes hok.out
      have HFI := Lib.hid (gnum hi).2.1
      obtain ⟨d1, d2, d3⟩ := HD.out.1 hi
      have c1 := fun W : World => run_convert_float_float (P := Tryd.prog) W 26 22 .f64 .f32 _ _ hs64 Tryd.underlying22 d1
      have c2 := fun W : World => run_convert_float_float (P := Tryd.prog) W 22 26 .f32 .f64 _ _ hs32 Tryd.underlying26 d3
      have c3 := ordSelf (k := .f64) (gnum HZ.out.1).1
      clear d1 d2 d3 HOV
      go_wp2_with fail
      refine (finS _ _).mono ?_
      rintro en w3 ⟨rfl, n3, rfl⟩
      rw [HFI.out]
      go_wp2_with fail
      refine (impl_Signed s _ _).mono ?_
      rintro en w3 ⟨rfl, rfl⟩
      go_wp2_with fail
      go_ret2
      exact ⟨by (rw [hv.out, hok.out, (show sgnOk s = true from HS.out)] <;> rfl), n3, rfl⟩
    · have hok : Hid (mkOk s m e = false) := mkOk_r hi
      have hv : Hid (mkV s m e = 0) := mkV_no hok.out
      obtain ⟨y, n1, c1, ly⟩ := conv_w Tryd.prog .f64 .f32 z (gpos_lt HZ.out.1) 26 22 hs64 Tryd.underlying22 w
      have HO := Lib.hid ((HOV hi).out y ly)
      clear ly HOV hi
      go_wp2_with fail
      refine (finS _ _).mono ?_
      rintro en w3 ⟨rfl, n3, rfl⟩
      cases hf : fin S y with
      | false =>
        go_wp2_with fail
        go_ret2
        exact ⟨by (rw [hv.out, hok.out] <;> rfl), n1 + n3, rfl⟩
      | true =>
        obtain ⟨u, n2, c2, c3⟩ := HO.out w (n1 + n3)
        clear hf
        rcases c3 with c3 | c3 | c3
        all_goals
          (go_wp2_with fail
           go_ret2
           exact ⟨by (rw [hv.out, hok.out] <;> rfl), n2, rfl⟩)
end Go.Proofs.YtpbklllmplimaaaDoor.same
