/- The law FnCodeClose, walked: it returns true. -/
import Derived.Test.YtjclldiaddoobaaRows
import Derived.Test.YtjclldiaddoobaaDrawRanges
import Derived.Test.YtjclldiaddoobaaBig
import Derived.Test.YtjclldiaddoobaaClose
namespace Go.Proofs.Ytjclldiaddoobaa.fnCodeClose
open Go.RowKit draw base same Fl rng
set_option linter.unusedVariables false

set_option maxHeartbeats 2000000 in
theorem walk (A : Option Addr) (n c : Nat) (w : World) (hb : Bytes w A n c) :
    Calls Try.prog 12 #[.slice A n c] w fun e w' => e = .returned (.bool true) ∧ Below w.heap.size w w' := by
  have HB := Lib.hid hb
  clear hb
  by_cases hbig : (n : Int) > 1048576
  · have hd : decide ((n : Int) > 1048576) = true := by simpa using hbig
    go_enter Try.func12, Try.ntmps12
    go_wp2_with fail
    refine (big A n c _).mono ?_
    rintro e w1 ⟨rfl, rfl⟩
    go_wp2_with fail
    go_ret
    exact ⟨rfl, Below.refl _ _⟩
  · have hd : decide ((n : Int) > 1048576) = false := by simpa using hbig
    go_enter Try.func12, Try.ntmps12
    go_wp2_with fail
    refine (big A n c _).mono ?_
    rintro e w1 ⟨rfl, rfl⟩
    go_wp2_with fail
    refine (drawRanges w A n c HB.out).mono ?_
    rintro e w1 ⟨gg, m, cap, F, D, U, x, rfl, hr, hg, hm, hx, b1⟩
    have HR := Lib.hid hr
    have B1 := Lib.hid b1
    have HX := Lib.hid hx
    have HG := Lib.hid hg
    clear hr b1 hbig hd hx hg
    go_wp2_with fail
    go_loopw [5] (fun i wr => ∃ k : Nat, k ≤ m ∧ i = .int .i64 k ∧ Below w1.heap.size w1 wr) (fun i _ => m - (intOf i).toNat)
    case atStart => exact ⟨0, Nat.zero_le _, rfl, Below.refl _ _⟩
    case round =>
      obtain ⟨k, hk, rfl, hbel⟩ := hrel
      have HBL := Lib.hid hbel
      clear hbel
      by_cases hkm : k < m
      · cases hc : codeOk m F D U k x with
        | false =>
          have h0 : codeV m F D U k x = 0 := by unfold codeV; rw [hc]; rfl
          obtain ⟨v1, v2, v3⟩ := val_in HG.out hkm (c := 0) (by decide)
          have hvn : num S (valV m F D U k 0) = true := valV_num m F D U k 0
          have V1 := Lib.hid v1; have V2 := Lib.hid v2; have C0 := Lib.hid h0; have CF := Lib.hid hc
          obtain ⟨u1, _, _, _⟩ := up_num hvn
          have hcv : ∀ W : World, (convert 29 33 (.float .f32 (valV m F D U k 0))).run Try.prog W = .ok (.float .f64 (up (valV m F D U k 0))) W := fun W =>
            run_convert_float_float W 29 33 .f32 .f64 _ _ (by rw [Try.underlying29]; rfl) Try.underlying33 u1
          clear v1 v2 v3 h0 hc u1 hvn
          go_wp2_with fail
          refine (impl_CodeOf _ m cap F D U k x HX.out _ (HR.out.below HBL.out)).mono ?_
          rintro e w2 ⟨rfl, b2⟩
          rw [CF.out, C0.out]
          have BB2 := Lib.hid (HBL.out.trans (b2.mono HBL.out.size))
          clear b2
          go_wp2_with fail
          refine (impl_ValueOf _ m cap F D U k 0 _ (HR.out.below BB2.out)).mono ?_
          rintro e w3 ⟨rfl, b3⟩
          rw [V1.out]
          have BB3 := Lib.hid (BB2.out.trans (b3.mono BB2.out.size))
          clear b3
          go_wp2_with fail
          refine (impl_Overload _ m cap F D U k _ _ (HR.out.below BB3.out)).mono ?_
          rintro e w4 ⟨rfl, b4⟩
          rw [V2.out]
          have BB4 := Lib.hid (BB3.out.trans (b4.mono BB3.out.size))
          obtain ⟨y, p, a1, ly⟩ := conv_w Try.prog .f32 .f64 x HX.out 29 33 (by rw [Try.underlying29]; rfl) Try.underlying33 w4
          obtain ⟨z, p2, a2, lz⟩ := arith_at Try.prog (op := .sub) (by simp) .f64 (up (valV m F D U k 0)) y 33 w4 p
          clear b4
          go_wp2_with fail
          go_roundw
          case rel => exact ⟨k + 1, by omega, by go_num, below_dn BB4.out p2⟩
          case measure => simp [intOf]; omega
        | true =>
          obtain ⟨hin, hfx, hff, d, q, hsub, hquo, hd1, hd2⟩ := close_spec HG.out hkm HX.out hc
          obtain ⟨cc, hcc⟩ : ∃ cc, codeV m F D U k x = cc := ⟨_, rfl⟩
          rw [hcc] at hin hsub
          have HCC := Lib.hid hcc
          clear hcc
          obtain ⟨v1, v2, v3⟩ := val_in HG.out hkm hin
          have hvn : num S (valV m F D U k cc) = true := valV_num m F D U k _
          have V1 := Lib.hid v1; have V2 := Lib.hid v2; have CF := Lib.hid hc
          obtain ⟨u1, _⟩ := up_num hvn
          obtain ⟨u2, _⟩ := up_num (num_of_fin hfx)
          obtain ⟨u3, _⟩ := up_num (num_of_fin hff)
          have hs32 : (Try.prog.underlying 29).isSome = true := by rw [Try.underlying29]; rfl
          have hcv : ∀ W : World, (convert 29 33 (.float .f32 (valV m F D U k cc))).run Try.prog W = .ok (.float .f64 (up (valV m F D U k cc))) W := fun W =>
            run_convert_float_float W 29 33 .f32 .f64 _ _ hs32 Try.underlying33 u1
          have hcx : ∀ W : World, (convert 29 33 (.float .f32 x)).run Try.prog W = .ok (.float .f64 (up x)) W := fun W =>
            run_convert_float_float W 29 33 .f32 .f64 _ _ hs32 Try.underlying33 u2
          have hcf : ∀ W : World, (convert 29 33 (.float .f32 (F k))).run Try.prog W = .ok (.float .f64 (up (F k))) W := fun W =>
            run_convert_float_float W 29 33 .f32 .f64 _ _ hs32 Try.underlying33 u3
          have q1 := fun W : World => run_float_arith (P := Try.prog) W .sub 33 .f64 _ _ _ hsub
          have q2 := fun W : World => run_float_arith (P := Try.prog) W .quo 33 .f64 _ _ _ hquo
          have HL1 := Lib.hid hd1
          have HL2 := Lib.hid hd2
          clear v1 v2 v3 hc u1 u2 u3 hvn hin hfx hff hsub hquo hd1 hd2
          have hn := fun k b => unary_neg_float k b
          go_wp2_with fail
          refine (impl_CodeOf _ m cap F D U k x HX.out _ (HR.out.below HBL.out)).mono ?_
          rintro e w2 ⟨rfl, b2⟩
          rw [CF.out, HCC.out]
          have BB2 := Lib.hid (HBL.out.trans (b2.mono HBL.out.size))
          clear b2
          go_wp2_with fail
          refine (impl_ValueOf _ m cap F D U k cc _ (HR.out.below BB2.out)).mono ?_
          rintro e w3 ⟨rfl, b3⟩
          rw [V1.out]
          have BB3 := Lib.hid (BB2.out.trans (b3.mono BB2.out.size))
          clear b3
          go_wp2_with fail
          refine (impl_Overload _ m cap F D U k _ _ (HR.out.below BB3.out)).mono ?_
          rintro e w4 ⟨rfl, b4⟩
          rw [V2.out]
          have BB4 := Lib.hid (BB3.out.trans (b4.mono BB3.out.size))
          clear b4
          have t1 : w4.cell? ⟨gg, k * 3, none⟩ = some (.float .f32 (F k)) := by
            obtain ⟨b, off, e, hlt, hcells⟩ := HR.out.2.2 (by omega)
            cases e
            have s1 := (hcells k hkm).1.1
            rw [Nat.zero_add] at s1
            exact (BB4.out.cell (p := ⟨gg, k * 3, none⟩) hlt).trans s1
          have o1 : FloatKind.f64.format.order d q = some .lt ∨ FloatKind.f64.format.order d q = some .eq := by
            have := HL1.out; unfold leD at this; simpa using this
          have o2 : FloatKind.f64.format.order (Op.negFloat .f64 d) q = some .lt ∨ FloatKind.f64.format.order (Op.negFloat .f64 d) q = some .eq := by
            have := HL2.out; unfold leD at this; simpa using this
          rcases o1 with o1 | o1 <;> rcases o2 with o2 | o2
          all_goals
            (go_wp2_with fail
             go_roundw
             case rel => exact ⟨k + 1, by omega, by go_num, BB4.out⟩
             case measure => simp [intOf]; omega)
      · have : k = m := by omega
        subst this
        go_wp2_with fail
        go_ret
        exact ⟨rfl, B1.out.trans (HBL.out.mono B1.out.size)⟩
end Go.Proofs.Ytjclldiaddoobaa.fnCodeClose
