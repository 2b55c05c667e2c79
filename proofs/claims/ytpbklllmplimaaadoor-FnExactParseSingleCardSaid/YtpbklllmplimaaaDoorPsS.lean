/- ParseSingle in package spec, walked. -/
import Derived.Test.YtpbklllmplimaaaDoorPsL
import Derived.Test.YtpbklllmplimaaaDoorMkS
import Derived.Test.YtpbklllmplimaaaDoorSignedS
import Derived.LoopTactic
import Derived.Lib.CutLaws
namespace Go.Proofs.YtpbklllmplimaaaDoor.same
open Go.RowKit Fl base fmt pu
set_option linter.unusedVariables false

theorem quo_zero : num S 0 = true := num_zero S
theorem quo00 : floatBits .quo .f32 0 0 = none := by decide +kernel
theorem quo10 : floatBits .quo .f32 1065353216 0 = some 2139095040 := by decide +kernel
theorem below_at {w w' : World} {B : Nat} (h : Below w.heap.size w w') (hB : B = w.heap.size) : Below B w w' := by subst hB; exact h
theorem beq_of {a : ByteArray} {l : List UInt8} (h : a.data.toList = l) : (a.toList == l) = true := by rw [Lib.toList_data, h]; simp
theorem beq_ne {a : ByteArray} {l : List UInt8} (h : a.data.toList ≠ l) : (a.toList == l) = false := by rw [Lib.toList_data]; simpa using h

theorem parts_facts (s : ByteArray) (i : Nat) (a r : ByteArray) (hs4 : s.size ≤ 20) (hend : i + 2 < s.size) (hA : a.data.toList = (tls s).take i) (hB : r.data.toList = pb (tls s)) (hbl : (pb (tls s)).length = s.size - (i + 2)) :
    a.size ≤ 9223372036854775807 ∧ ∃ h : 0 < r.size, r.size ≤ 9223372036854775807 ∧ (ngB (pb (tls s)) = true → (((r[0]'h).toNat : Int) == 45) = true) ∧ (ngB (pb (tls s)) = false → (((r[0]'h).toNat : Int) == 45) = false) := by
  have hrl : r.size = s.size - (i + 2) := by rw [Lib.size_eq, hB, hbl]
  have h0 : 0 < r.size := by omega
  have hg := at_get r 0 h0
  have hng : ngB (pb (tls s)) = (r[0]'h0 == 45) := by
    rw [← hB]
    cases hl : r.data.toList with
    | nil => rw [hl] at hg; cases hg
    | cons c l =>
      rw [hl] at hg
      rw [ng_cons]
      have : c = r[0]'h0 := by simpa using hg
      rw [this]
  refine ⟨?_, h0, by omega, fun h => ?_, fun h => ?_⟩
  · rw [Lib.size_eq, hA, List.length_take, tls_len]; omega
  · rw [hng, beq_iff_eq] at h
    rw [h]; rfl
  · rw [hng, beq_eq_false_iff_ne] at h
    refine beq_eq_false_iff_ne.2 (fun e => h (UInt8.toNat_inj.1 ?_))
    have : ((45 : UInt8).toNat) = 45 := rfl
    omega
theorem parts_facts2 (r r2 : ByteArray) (l : List UInt8) (h : r.extract 1 r.size = r2) (hB : r.data.toList = l) (hr : r.size ≤ 9223372036854775807) : r2.data.toList = l.tail ∧ r2.size ≤ 9223372036854775807 := by
  have e2 : r2.data.toList = l.tail := by rw [← h, Lib.extract_to_end, hB, List.drop_one]
  refine ⟨e2, ?_⟩
  rw [Lib.size_eq, e2, List.length_tail, ← hB, ← Lib.size_eq]; omega

set_option maxRecDepth 100000 in
set_option maxHeartbeats 40000000 in
theorem spec_ParseSingle (s : ByteArray) (hm : s.size ≤ 9223372036854775807) (w : World) : Calls Tryd.prog 7 #[.string s] w (PsE s w) := by
  by_cases hnan : s.data.toList = [110, 97, 110]
  · have hq := beq_of hnan
    obtain ⟨nb, hnb, hrun⟩ := run_arith_nan Tryd.prog (op := .quo) (Or.inr (Or.inr (Or.inr rfl))) quo00 22
    have HN := Lib.hid hnb
    have HS : Hid (∀ v, num S v = false → v < 2 ^ 32 → Ps s v true) := fun v h1 h2 => Ps.nan hnan v h1 h2
    clear hnb hnan
    go_enter Tryd.func7, Tryd.ntmps7
    go_wp2_with fail
    go_ret2
    exact ⟨_, _, HS.out _ (HN.out _).1 (HN.out _).2, rfl, below_dn (Below.refl _ _) 1⟩
  have hq := beq_ne hnan
  have HNN := Lib.hid hnan
  clear hnan
  by_cases hs : s.size < 2
  · have HS := Lib.hid (Ps.short HNN.out hs)
    go_enter Tryd.func7, Tryd.ntmps7
    go_wp2_with fail
    go_ret2
    exact ⟨_, _, HS.out, rfl, Below.refl _ _⟩
  by_cases hs2 : 20 < s.size
  · have HS := Lib.hid (Ps.core HNN.out (by omega) (fun h => by have := tls_len s; rw [h] at this; simp at this; omega) (fun h => by have := tls_len s; rw [h] at this; simp at this; omega) _ _ (core_long hs2))
    go_enter Tryd.func7, Tryd.ntmps7
    go_wp2_with fail
    go_ret2
    exact ⟨_, _, HS.out, rfl, Below.refl _ _⟩
  have hs3 : 2 ≤ s.size := by omega
  have hs4 : s.size ≤ 20 := by omega
  clear hs hs2 hm
  have e1 := ext_tls s
  by_cases hinf : tls s = [105, 110, 102]
  · have hq2 := beq_of (e1.trans hinf)
    have q1 := fun W : World => run_float_arith (P := Tryd.prog) W .quo 22 .f32 _ _ _ quo10
    have HS := Lib.hid (Ps.inf HNN.out hs3 hinf)
    clear hinf e1
    go_enter Tryd.func7, Tryd.ntmps7
    go_wp2_with fail
    refine (spec_Signed (s.extract 0 1) _ _).mono ?_
    rintro en w1 ⟨rfl, rfl⟩
    go_wp2_with fail
    go_ret2
    exact ⟨_, _, HS.out, rfl, Below.refl _ _⟩
  have hq2 := beq_ne (fun h => hinf (e1.symm.trans h))
  by_cases hz : tls s = [48]
  · have hq3 := beq_of (e1.trans hz)
    have HS := Lib.hid (Ps.zero HNN.out hs3 hz)
    clear hinf hz e1
    go_enter Tryd.func7, Tryd.ntmps7
    go_wp2_with fail
    refine (spec_Signed (s.extract 0 1) _ _).mono ?_
    rintro en w1 ⟨rfl, rfl⟩
    go_wp2_with fail
    go_ret2
    exact ⟨_, _, HS.out, rfl, Below.refl _ _⟩
  have hq3 := beq_ne (fun h => hz (e1.symm.trans h))
  have HC : Hid (∀ v b, CoreIs s v b → Ps s v b) := fun v b h => Ps.core HNN.out hs3 hinf hz v b h
  clear hinf hz e1
  go_enter Tryd.func7, Tryd.ntmps7
  go_wp2_with fail
  go_loop [10] (fun p => ∃ i : Nat, p = .int .i64 ((i : Int) + 1) ∧ i + 1 ≤ s.size ∧ ∀ b ∈ (tls s).take i, b ≠ 112) (fun p => s.size - (intOf p).toNat)
  case atStart => exact ⟨0, rfl, by omega, by simp⟩
  case round =>
    obtain ⟨i, rfl, hi, hb⟩ := hrel
    have HB := Lib.hid hb
    clear hb
    have hA := ext_a s i
    have hBx := ext_b s i
    by_cases hlt : i + 1 < s.size
    · have HG := Lib.hid (tls_get s i hlt)
      have l6 : ((i : Int) + 1).toNat = i + 1 := by omega
      by_cases hc : s[i + 1] = 112
      · have hcb : ((s[i + 1].toNat : Int) == 112) = true := by rw [hc]; rfl
        have HP := Lib.hid (p_at (by rw [HG.out, hc]) HB.out)
        clear hc
        by_cases hend : i + 2 < s.size
        · have hbl : (pb (tls s)).length = s.size - (i + 2) := by rw [HP.out.2, List.length_drop, tls_len]; omega
          have hsl : ∀ W, (Instr.slice 9 (.string s) (some (.int .i64 1)) (some (.int .i64 ((i : Int) + 1))) none).run Tryd.prog W = .ok (.string (s.extract 1 (i + 1))) W := fun W => by
            rw [run_slice_string W _ _ .i64 .i64 1 ((i : Int) + 1) Tryd.underlying9 (by omega) (by omega) (by omega), l6]; rfl
          have l7 : ((i : Int) + 1 + 1).toNat = i + 1 + 1 := by omega
          have hsr : ∀ W, (Instr.slice 9 (.string s) (some (.int .i64 ((i : Int) + 1 + 1))) none none).run Tryd.prog W = .ok (.string (s.extract (i + 1 + 1) s.size)) W := fun W => by
            rw [run_slice_string_l W _ s Tryd.underlying9 .i64 ((i : Int) + 1 + 1) (by omega) (by omega), l7]
          obtain ⟨a, hae⟩ : ∃ a : ByteArray, s.extract 1 (i + 1) = a := ⟨_, rfl⟩
          obtain ⟨r, hre⟩ : ∃ r : ByteArray, s.extract (i + 1 + 1) s.size = r := ⟨_, rfl⟩
          rw [hae] at hsl hA
          rw [hre] at hsr hBx
          have hae' : a.data.toList = pa (tls s) := hA.trans HP.out.1.symm
          have hre' : r.data.toList = pb (tls s) := hBx.trans HP.out.2.symm
          obtain ⟨hal, hr0, hrs, hng, hng2⟩ := parts_facts s i a r hs4 hend hA hre' hbl
          obtain ⟨r2, hr2e⟩ : ∃ r2 : ByteArray, r.extract 1 r.size = r2 := ⟨_, rfl⟩
          have hsr2 : ∀ W, (Instr.slice 9 (.string r) (some (.int .i64 1)) none none).run Tryd.prog W = .ok (.string r2) W := fun W => by
            rw [run_slice_string_l W _ r Tryd.underlying9 .i64 1 (by omega) (by omega), ← hr2e]; rfl
          obtain ⟨e2, hrs2⟩ := parts_facts2 r r2 (pb (tls s)) hr2e hre' hrs
          have HAL := Lib.hid hal
          have HAE := Lib.hid hae'
          have HRE := Lib.hid hre'
          have HRS := Lib.hid hrs
          have HRS2 := Lib.hid hrs2
          have HE2 := Lib.hid e2
          have HB1' := Lib.hid (pu_bound (absB (pb (tls s))))
          have HX1 := Lib.hid (mkV_lt (sg1 s) (puV (pa (tls s)) : Nat) (exB (pb (tls s))))
          clear hal hae hre hae' hre' hbl hrs hrs2 e2 hA hBx l7 hr2e
          cases hn : ngB (pb (tls s)) with
          | true =>
            have hn45 := hng hn
            have HAB : Hid (absB (pb (tls s)) = (pb (tls s)).tail) := by show _ = _; unfold absB; rw [hn]; rfl
            have HEX : Hid (-((puV (absB (pb (tls s))) : Nat) : Int) = exB (pb (tls s))) := by show _ = _; unfold exB; rw [hn]; rfl
            clear hng hng2 hn
            go_wp2_with fail
            refine (spec_ParseUint a HAL.out _).mono ?_
            rintro en w1 ⟨rfl, b1⟩
            have HB1 := Lib.hid b1
            clear b1
            rw [HAE.out]
            clear hsl
            go_wp2_with fail
            refine (spec_ParseUint r2 HRS2.out _).mono ?_
            rintro en w2 ⟨rfl, b2⟩
            have HB2 := Lib.hid (HB1.out.trans (b2.mono HB1.out.size))
            clear b2 hsr hsr2 hn45
            rw [HE2.out, ← HAB.out]
            have hb2 := HB1'.out
            cases ho1 : puOk (pa (tls s)) with
            | false =>
              have HS := Lib.hid (HC.out _ _ (core_a ho1))
              clear ho1
              go_wp2_with fail
              go_ret2
              exact ⟨_, _, HS.out, rfl, HB2.out⟩
            | true =>
              cases ho2 : puOk (absB (pb (tls s))) with
              | false =>
                have HS := Lib.hid (HC.out _ _ (core_b ho2))
                clear ho1 ho2
                go_wp2_with fail
                go_ret2
                exact ⟨_, _, HS.out, rfl, HB2.out⟩
              | true =>
                have HO1 := Lib.hid ho1
                have HO2 := Lib.hid ho2
                clear ho1 ho2
                go_wp2_with fail
                rw [HEX.out]
                refine (spec_MakeSingle (s.extract 0 1) _ _ _).mono ?_
                rintro en w3 ⟨rfl, p3, rfl⟩
                have HB3 := Lib.hid (below_dn HB2.out p3)
                cases hmk : mkOk (s.extract 0 1) (puV (pa (tls s)) : Nat) (exB (pb (tls s))) with
                | false =>
                  have HS := Lib.hid (HC.out _ _ (core_m hmk))
                  clear hmk
                  go_wp2_with fail
                  go_ret2
                  exact ⟨_, _, HS.out, rfl, HB3.out⟩
                | true =>
                  have HMK := Lib.hid hmk
                  clear hmk
                  go_wp2_with fail
                  refine (spec_FormatSingle _ HX1.out _).mono ?_
                  rintro en w4 ⟨l, hfs, rfl, b4⟩
                  have HB4 := Lib.hid (HB3.out.trans (b4.mono HB3.out.size))
                  clear b4
                  cases hql : (l == s.toList) with
                  | true =>
                    have hle : l = s.data.toList := by rw [← Lib.toList_data]; simpa using hql
                    have HS := Lib.hid (HC.out _ _ (core_yes HO1.out HO2.out HMK.out (by rw [← hle]; exact hfs)))
                    clear hfs hle
                    go_wp2_with fail
                    go_ret2
                    exact ⟨_, _, HS.out, rfl, HB4.out⟩
                  | false =>
                    have hle : l ≠ s.data.toList := by rw [← Lib.toList_data]; simpa using hql
                    have HS := Lib.hid (HC.out _ _ (core_f (fun h => hle (hfs.unique h))))
                    clear hfs hle
                    go_wp2_with fail
                    go_ret2
                    exact ⟨_, _, HS.out, rfl, HB4.out⟩
          | false =>
            have hn45 := hng2 hn
            have HAB : Hid (absB (pb (tls s)) = pb (tls s)) := by show _ = _; unfold absB; rw [hn]; rfl
            have HEX : Hid (((puV (absB (pb (tls s))) : Nat) : Int) = exB (pb (tls s))) := by show _ = _; unfold exB; rw [hn]; rfl
            clear hng hng2 hn
            go_wp2_with fail
            refine (spec_ParseUint a HAL.out _).mono ?_
            rintro en w1 ⟨rfl, b1⟩
            have HB1 := Lib.hid b1
            clear b1
            rw [HAE.out]
            clear hsl
            go_wp2_with fail
            refine (spec_ParseUint r HRS.out _).mono ?_
            rintro en w2 ⟨rfl, b2⟩
            have HB2 := Lib.hid (HB1.out.trans (b2.mono HB1.out.size))
            clear b2 hsr hsr2 hn45
            rw [HRE.out, ← HAB.out]
            cases ho1 : puOk (pa (tls s)) with
            | false =>
              have HS := Lib.hid (HC.out _ _ (core_a ho1))
              clear ho1
              go_wp2_with fail
              go_ret2
              exact ⟨_, _, HS.out, rfl, HB2.out⟩
            | true =>
              cases ho2 : puOk (absB (pb (tls s))) with
              | false =>
                have HS := Lib.hid (HC.out _ _ (core_b ho2))
                clear ho1 ho2
                go_wp2_with fail
                go_ret2
                exact ⟨_, _, HS.out, rfl, HB2.out⟩
              | true =>
                have HO1 := Lib.hid ho1
                have HO2 := Lib.hid ho2
                clear ho1 ho2
                go_wp2_with fail
                rw [HEX.out]
                refine (spec_MakeSingle (s.extract 0 1) _ _ _).mono ?_
                rintro en w3 ⟨rfl, p3, rfl⟩
                have HB3 := Lib.hid (below_dn HB2.out p3)
                cases hmk : mkOk (s.extract 0 1) (puV (pa (tls s)) : Nat) (exB (pb (tls s))) with
                | false =>
                  have HS := Lib.hid (HC.out _ _ (core_m hmk))
                  clear hmk
                  go_wp2_with fail
                  go_ret2
                  exact ⟨_, _, HS.out, rfl, HB3.out⟩
                | true =>
                  have HMK := Lib.hid hmk
                  clear hmk
                  go_wp2_with fail
                  refine (spec_FormatSingle _ HX1.out _).mono ?_
                  rintro en w4 ⟨l, hfs, rfl, b4⟩
                  have HB4 := Lib.hid (HB3.out.trans (b4.mono HB3.out.size))
                  clear b4
                  cases hql : (l == s.toList) with
                  | true =>
                    have hle : l = s.data.toList := by rw [← Lib.toList_data]; simpa using hql
                    have HS := Lib.hid (HC.out _ _ (core_yes HO1.out HO2.out HMK.out (by rw [← hle]; exact hfs)))
                    clear hfs hle
                    go_wp2_with fail
                    go_ret2
                    exact ⟨_, _, HS.out, rfl, HB4.out⟩
                  | false =>
                    have hle : l ≠ s.data.toList := by rw [← Lib.toList_data]; simpa using hql
                    have HS := Lib.hid (HC.out _ _ (core_f (fun h => hle (hfs.unique h))))
                    clear hfs hle
                    go_wp2_with fail
                    go_ret2
                    exact ⟨_, _, HS.out, rfl, HB4.out⟩
        · have hpb : pb (tls s) = [] := by rw [HP.out.2]; exact List.drop_eq_nil_of_le (by rw [tls_len]; omega)
          have HS := Lib.hid (HC.out _ _ (core_b (by rw [hpb]; exact puOk_nil)))
          clear hpb hA hBx
          go_wp2_with fail
          go_ret2
          exact ⟨_, _, HS.out, rfl, Below.refl _ _⟩
      · have hcb : ((s[i + 1].toNat : Int) == 112) = false := by
          have : s[i + 1].toNat ≠ 112 := fun h => hc (UInt8.toNat_inj.1 (by rw [h]; rfl))
          exact beq_eq_false_iff_ne.2 (by omega)
        have HB1 : Hid (∀ b ∈ (tls s).take (i + 1), b ≠ 112) := by
          show ∀ b ∈ (tls s).take (i + 1), b ≠ 112
          intro b hb
          have hlen : i < (tls s).length := (List.getElem?_eq_some_iff.1 HG.out).1
          rw [List.take_succ_eq_append_getElem hlen, List.mem_append] at hb
          rcases hb with hb | hb
          · exact HB.out b hb
          · simp at hb
            have := (List.getElem?_eq_some_iff.1 HG.out).2
            rw [hb, this]; exact hc
        clear hc hA hBx
        go_wp2_with fail
        go_round
        case rel => exact ⟨i + 1, by go_num, by omega, HB1.out⟩
        case measure => simp [intOf]; omega
    · have hnone : ∀ b ∈ tls s, b ≠ 112 := by
        have := HB.out
        rw [List.take_of_length_le (by rw [tls_len]; omega)] at this
        exact this
      have HS := Lib.hid (HC.out _ _ (core_b (by rw [(p_none hnone).2]; exact puOk_nil)))
      clear hnone hA hBx
      go_wp2_with fail
      go_ret2
      exact ⟨_, _, HS.out, rfl, Below.refl _ _⟩
end Go.Proofs.YtpbklllmplimaaaDoor.same
