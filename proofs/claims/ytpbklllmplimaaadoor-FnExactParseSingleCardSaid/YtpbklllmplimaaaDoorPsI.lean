/- ParseSingle in package impl, walked. -/
import Derived.Test.YtpbklllmplimaaaDoorPsL
import Derived.Test.YtpbklllmplimaaaDoorMkI
import Derived.Test.YtpbklllmplimaaaDoorSignedI
import Derived.Test.YtpbklllmplimaaaDoorFinite
import Derived.Test.YtpbklllmplimaaaDoorCut
import Derived.Lib.CutLaws
namespace Go.Proofs.YtpbklllmplimaaaDoor.same
open Go.RowKit Fl base fmt pu
set_option linter.unusedVariables false

theorem cvinf : floatToFloatBits .f64 9218868437227405312 .f32 = some 2139095040 := by decide +kernel
theorem num_nan64 : num D 9221120237041090561 = false := by decide +kernel
theorem beq_ofI {a : ByteArray} {l : List UInt8} (h : a.data.toList = l) : (a.toList == l) = true := by rw [Lib.toList_data, h]; simp
theorem beq_neI {a : ByteArray} {l : List UInt8} (h : a.data.toList ≠ l) : (a.toList == l) = false := by rw [Lib.toList_data]; simpa using h

theorem mathNaN (w : World) : Calls Tryd.prog 22 #[] w fun e w' => e = .returned (.float .f64 9221120237041090561) ∧ w = w' := by
  have hf : ∀ W : World, (callFunc 43 #[.int .u64 9221120237041090561]).run Tryd.prog W = .ok (.value (.float .f64 9221120237041090561)) W := fun W => run_float64frombits 9221120237041090561 W
  go_enter Tryd.func22, Tryd.ntmps22
  go_wp2_with fail
  go_ret
  exact ⟨rfl, rfl⟩
theorem mathInf (w : World) : Calls Tryd.prog 24 #[.int .i64 1] w fun e w' => e = .returned (.float .f64 9218868437227405312) ∧ w = w' := by
  have hf : ∀ W : World, (callFunc 43 #[.int .u64 9218868437227405312]).run Tryd.prog W = .ok (.value (.float .f64 9218868437227405312)) W := fun W => run_float64frombits 9218868437227405312 W
  go_enter Tryd.func24, Tryd.ntmps24
  go_wp2_with fail
  go_ret
  exact ⟨rfl, rfl⟩

/-- Cut at a 'p', whatever the text -/
theorem cut_p (u : ByteArray) (hm : u.size ≤ 9223372036854775807) : ∃ (A B : ByteArray) (f : Bool), (∀ w, Calls Tryd.prog 25 #[.string u, .string ⟨#[112]⟩] w (CutE A B f w)) ∧
    A.data.toList = pa u.data.toList ∧ B.data.toList = pb u.data.toList ∧ (f = false → pb u.data.toList = []) := by
  by_cases h : ∀ b ∈ u.data.toList, b ≠ 112
  · obtain ⟨h1, h2⟩ := p_none h
    exact ⟨u, ⟨#[]⟩, false, fun w => cut_miss u 112 h w, h1.symm, h2.symm, fun _ => h2⟩
  · have hx : ∃ b ∈ u.data.toList, b = 112 := Classical.byContradiction fun hn => h fun b hb e => hn ⟨b, hb, e⟩
    obtain ⟨b, hb, rfl⟩ := hx
    have hex : ∃ q : Nat, u.data.toList[q]? = some 112 ∧ ∀ j : Nat, j < q → u.data.toList[j]? ≠ some 112 := by
      have hsome : ∃ q : Nat, u.data.toList[q]? = some 112 := by
        obtain ⟨q, hq⟩ := List.getElem?_of_mem hb
        exact ⟨q, hq⟩
      obtain ⟨q, hq⟩ := hsome
      induction q using Nat.strongRecOn with
      | ind q ih =>
        by_cases hm : ∃ j, j < q ∧ u.data.toList[j]? = some 112
        · obtain ⟨j, h1, h2⟩ := hm
          exact ih j h1 h2
        · exact ⟨q, hq, fun j h1 h2 => hm ⟨j, h1, h2⟩⟩
    obtain ⟨q, hq, hmin⟩ := hex
    have hne : ∀ b ∈ u.data.toList.take q, b ≠ 112 := by
      rintro b hb rfl
      obtain ⟨j, hj⟩ := List.getElem?_of_mem hb
      have hjq : j < q := by
        have := (List.getElem?_eq_some_iff.1 hj).1
        simp at this; omega
      rw [List.getElem?_take_of_lt hjq] at hj
      exact hmin j hjq hj
    obtain ⟨h1, h2⟩ := p_at hq hne
    refine ⟨_, _, true, fun w => cut_hit u 112 q hm hq hmin w, ?_, ?_, fun h => by cases h⟩
    · rw [h1, Lib.extract_data]; simp
    · rw [h2, Lib.extract_to_end]

set_option maxRecDepth 100000 in
set_option maxHeartbeats 40000000 in
theorem impl_ParseSingle (s : ByteArray) (hm : s.size ≤ 140737488351232) (w : World) (ht : tab.Tab w) : Calls Tryd.prog 8 #[.string s] w (PsE s w) := by
  have HTB := Lib.hid ht
  clear ht
  by_cases hnan : s.data.toList = [110, 97, 110]
  · have hq := beq_ofI hnan
    obtain ⟨nb, hnb, hrun⟩ := run_conv_nan Tryd.prog (s := .f64) (k := .f32) (by decide) num_nan64 26 22 (by rw [Tryd.underlying26]; rfl) Tryd.underlying22
    have HN := Lib.hid hnb
    have HS : Hid (∀ v, num S v = false → v < 2 ^ 32 → Ps s v true) := fun v h1 h2 => Ps.nan hnan v h1 h2
    clear hnb hnan
    go_enter Tryd.func8, Tryd.ntmps8
    go_wp2_with fail
    refine (mathNaN _).mono ?_
    rintro en w1 ⟨rfl, rfl⟩
    go_wp2_with fail
    go_ret2
    exact ⟨_, _, HS.out _ (HN.out _).1 (HN.out _).2, rfl, below_dn (Below.refl _ _) 1⟩
  have hq := beq_neI hnan
  have HNN := Lib.hid hnan
  clear hnan
  by_cases hs : s.size < 2
  · have HS := Lib.hid (Ps.short HNN.out hs)
    go_enter Tryd.func8, Tryd.ntmps8
    go_wp2_with fail
    go_ret2
    exact ⟨_, _, HS.out, rfl, Below.refl _ _⟩
  have hs3 : 2 ≤ s.size := by omega
  clear hs
  have e1 := ext_tls s
  by_cases hinf : tls s = [105, 110, 102]
  · have hq2 := beq_ofI (e1.trans hinf)
    have q1 := fun W : World => run_convert_float_float (P := Tryd.prog) W 26 22 .f64 .f32 _ _ (by rw [Tryd.underlying26]; rfl) Tryd.underlying22 cvinf
    have HS := Lib.hid (Ps.inf HNN.out hs3 hinf)
    clear hinf e1
    go_enter Tryd.func8, Tryd.ntmps8
    go_wp2_with fail
    go_region
    go_wp2_with fail
    refine (mathInf _).mono ?_
    rintro en w1 ⟨rfl, rfl⟩
    go_wp2_with fail
    refine (impl_Signed (s.extract 0 1) _ _).mono ?_
    rintro en w1 ⟨rfl, rfl⟩
    go_wp2_with fail
    go_ret2
    exact ⟨_, _, HS.out, rfl, below_dn (Below.refl _ _) 1⟩
  have hq2 := beq_neI (fun h => hinf (e1.symm.trans h))
  by_cases hz : tls s = [48]
  · have hq3 := beq_ofI (e1.trans hz)
    have HS := Lib.hid (Ps.zero HNN.out hs3 hz)
    clear hinf hz e1
    go_enter Tryd.func8, Tryd.ntmps8
    go_wp2_with fail
    go_region
    go_wp2_with fail
    refine (impl_Signed (s.extract 0 1) _ _).mono ?_
    rintro en w1 ⟨rfl, rfl⟩
    go_wp2_with fail
    go_ret2
    exact ⟨_, _, HS.out, rfl, below_dn (Below.refl _ _) 1⟩
  have hq3 := beq_neI (fun h => hz (e1.symm.trans h))
  have HC : Hid (∀ v b, CoreIs s v b → Ps s v b) := fun v b h => Ps.core HNN.out hs3 hinf hz v b h
  have hxs : (s.extract 1 s.size).size ≤ 9223372036854775807 := by rw [Lib.size_eq, e1, tls_len]; omega
  obtain ⟨A, B, f, hcut, hA, hBx, hf⟩ := cut_p (s.extract 1 s.size) hxs
  rw [e1] at hA hBx hf
  have hAs : A.size ≤ 9223372036854775807 := by
    rw [Lib.size_eq, hA]
    have : (pa (tls s)).length ≤ (tls s).length := (List.takeWhile_sublist _).length_le
    rw [tls_len] at this; omega
  have hpbl : (pb (tls s)).length ≤ s.size - 1 := by
    rw [← tls_len]
    unfold pb
    rw [List.length_tail]
    have : ((tls s).dropWhile fun b => b != 112).length ≤ (tls s).length := (List.dropWhile_sublist _).length_le
    omega
  have hBs : B.size ≤ 9223372036854775807 := by rw [Lib.size_eq, hBx]; omega
  have hB1 : (B.extract 1 B.size).data.toList = (pb (tls s)).tail := by rw [Lib.extract_to_end, hBx, List.drop_one]
  have hB1s : (B.extract 1 B.size).size ≤ 9223372036854775807 := by rw [Lib.size_eq, hB1, List.length_tail]; omega
  have HCUT := Lib.hid hcut; have HA := Lib.hid hA; have HBX := Lib.hid hBx; have HF := Lib.hid hf
  have HAS := Lib.hid hAs; have HBS := Lib.hid hBs; have HB1 := Lib.hid hB1; have HB1S := Lib.hid hB1s
  have hb1 := pu_bound (pa (tls s))
  have hb2 := pu_bound (absB (pb (tls s)))
  have HX1 := Lib.hid (mkV_lt (sg1 s) (puV (pa (tls s)) : Nat) (exB (pb (tls s))))
  have hBl : Hid (ngB (pb (tls s)) = true → 1 ≤ B.size) := by
    show ngB (pb (tls s)) = true → 1 ≤ B.size
    intro h
    rw [Lib.size_eq, hBx]
    cases hp : pb (tls s) with
    | nil => rw [hp] at h; cases h
    | cons c r => simp
  have HPM : Hid ((45 : UInt8) = 45) := rfl
  clear hinf hz e1 hxs hcut hA hBx hf hAs hpbl hBs hB1 hB1s hm
  go_enter Tryd.func8, Tryd.ntmps8
  go_wp2_with fail
  go_region
  go_wp2_with fail
  refine (HCUT.out _).mono ?_
  rintro en w1 ⟨rfl, n, hw1⟩
  have HW0 : Hid (Below w.heap.size w w1) := by
    show Below _ _ _
    rw [hw1]
    exact below_dn (below_dn (Below.refl _ _) 1) _
  have HT1 : Hid (tab.Tab w1) := HTB.out.below (Nat.le_refl _) HW0.out
  clear hw1
  clear hq hq2 hq3 hs3
  go_wp2_with fail
  refine (impl_ParseUint A HAS.out _ HT1.out).mono ?_
  rintro en w2 ⟨rfl, b2⟩
  have HT2 := Lib.hid (HT1.out.below (Nat.le_refl _) b2)
  have HW2 := Lib.hid (HW0.out.trans (b2.mono HW0.out.size))
  clear b2
  rw [HA.out]
  go_wp2_with fail
  refine (Tryd.strings_HasPrefix B ⟨#[45]⟩ _).mono ?_
  rintro en w3 ⟨rfl, rfl⟩
  rw [HBX.out]
  rw [show Lib.hasPrefix (pb (tls s)) (⟨#[45]⟩ : ByteArray).data.toList = ngB (pb (tls s)) from rfl]
  cases hn : ngB (pb (tls s)) with
  | true =>
    have hB0 : 1 ≤ B.size := hBl.out hn
    have HAB : Hid (absB (pb (tls s)) = (pb (tls s)).tail) := by show _ = _; unfold absB; rw [hn]; rfl
    have HEX : Hid (-((puV (absB (pb (tls s))) : Nat) : Int) = exB (pb (tls s))) := by show _ = _; unfold exB; rw [hn]; rfl
    clear hn
    go_wp2_with fail
    go_region
    go_wp2_with fail
    have HT3 : Hid (tab.Tab (w3.drewN 1)) := HT2.out.below (Nat.le_refl _) (below_dn (Below.refl _ _) 1)
    have HW3 : Hid (Below w.heap.size w (w3.drewN 1)) := below_dn HW2.out 1
    refine (impl_ParseUint (B.extract 1 B.size) HB1S.out _ HT3.out).mono ?_
    rintro en w4 ⟨rfl, b4⟩
    have HT4 := Lib.hid (HT3.out.below (Nat.le_refl _) b4)
    have HW4 := Lib.hid (HW3.out.trans (b4.mono HW3.out.size))
    clear b4 hB0
    rw [HB1.out, ← HAB.out]
    cases f with
    | false =>
      have HS := Lib.hid (HC.out _ _ (core_b (by rw [HF.out rfl]; exact puOk_nil)))
      go_wp2_with fail
      go_ret2
      exact ⟨_, _, HS.out, rfl, HW4.out⟩
    | true =>
    cases ho1 : puOk (pa (tls s)) with
    | false =>
      have HS := Lib.hid (HC.out _ _ (core_a ho1))
      clear ho1
      go_wp2_with fail
      go_ret2
      exact ⟨_, _, HS.out, rfl, HW4.out⟩
    | true =>
    cases ho2 : puOk (absB (pb (tls s))) with
    | false =>
      have HS := Lib.hid (HC.out _ _ (core_b ho2))
      clear ho1 ho2
      go_wp2_with fail
      go_ret2
      exact ⟨_, _, HS.out, rfl, HW4.out⟩
    | true =>
    have HO1 := Lib.hid ho1
    have HO2 := Lib.hid ho2
    clear ho1 ho2
    go_wp2_with fail
    rw [HEX.out]
    refine (impl_MakeSingle (s.extract 0 1) _ _ _).mono ?_
    rintro en w5 ⟨rfl, p5, hw5⟩
    have HB5 : Hid (Below w.heap.size w w5) := by
      show Below _ _ _
      rw [hw5]; exact below_dn HW4.out p5
    have HT5 : Hid (tab.Tab w5) := by
      show tab.Tab _
      rw [hw5]; exact HT4.out.below (Nat.le_refl _) (below_dn (Below.refl _ _) p5)
    clear hw5
    cases hmk : mkOk (s.extract 0 1) (puV (pa (tls s)) : Nat) (exB (pb (tls s))) with
    | false =>
      have HS := Lib.hid (HC.out _ _ (core_m hmk))
      clear hmk
      go_wp2_with fail
      go_ret2
      exact ⟨_, _, HS.out, rfl, HB5.out⟩
    | true =>
    have HMK := Lib.hid hmk
    clear hmk
    go_wp2_with fail
    refine (impl_FormatSingle _ HX1.out _ HT5.out).mono ?_
    rintro en w6 ⟨l, hfs, rfl, b6⟩
    have HB6 := Lib.hid (HB5.out.trans (b6.mono HB5.out.size))
    clear b6
    cases hql : (l == s.toList) with
    | true =>
      have hle : l = s.data.toList := by rw [← Lib.toList_data]; simpa using hql
      have HS := Lib.hid (HC.out _ _ (core_yes HO1.out HO2.out HMK.out (by rw [← hle]; exact hfs)))
      clear hfs hle
      go_wp2_with fail
      go_ret2
      exact ⟨_, _, HS.out, rfl, HB6.out⟩
    | false =>
      have hle : l ≠ s.data.toList := by rw [← Lib.toList_data]; simpa using hql
      have HS := Lib.hid (HC.out _ _ (core_f (fun h => hle (hfs.unique h))))
      clear hfs hle
      go_wp2_with fail
      go_ret2
      exact ⟨_, _, HS.out, rfl, HB6.out⟩
  | false =>
    have HAB : Hid (absB (pb (tls s)) = pb (tls s)) := by show _ = _; unfold absB; rw [hn]; rfl
    have HEX : Hid (((puV (absB (pb (tls s))) : Nat) : Int) = exB (pb (tls s))) := by show _ = _; unfold exB; rw [hn]; rfl
    clear hn
    go_wp2_with fail
    refine (impl_ParseUint B HBS.out _ HT2.out).mono ?_
    rintro en w4 ⟨rfl, b4⟩
    have HT4 := Lib.hid (HT2.out.below (Nat.le_refl _) b4)
    have HW4 := Lib.hid (HW2.out.trans (b4.mono HW2.out.size))
    clear b4
    rw [HBX.out, ← HAB.out]
    cases f with
    | false =>
      have HS := Lib.hid (HC.out _ _ (core_b (by rw [HF.out rfl]; exact puOk_nil)))
      go_wp2_with fail
      go_ret2
      exact ⟨_, _, HS.out, rfl, HW4.out⟩
    | true =>
    cases ho1 : puOk (pa (tls s)) with
    | false =>
      have HS := Lib.hid (HC.out _ _ (core_a ho1))
      clear ho1
      go_wp2_with fail
      go_ret2
      exact ⟨_, _, HS.out, rfl, HW4.out⟩
    | true =>
    cases ho2 : puOk (absB (pb (tls s))) with
    | false =>
      have HS := Lib.hid (HC.out _ _ (core_b ho2))
      clear ho1 ho2
      go_wp2_with fail
      go_ret2
      exact ⟨_, _, HS.out, rfl, HW4.out⟩
    | true =>
    have HO1 := Lib.hid ho1
    have HO2 := Lib.hid ho2
    clear ho1 ho2
    go_wp2_with fail
    rw [HEX.out]
    refine (impl_MakeSingle (s.extract 0 1) _ _ _).mono ?_
    rintro en w5 ⟨rfl, p5, hw5⟩
    have HB5 : Hid (Below w.heap.size w w5) := by
      show Below _ _ _
      rw [hw5]; exact below_dn HW4.out p5
    have HT5 : Hid (tab.Tab w5) := by
      show tab.Tab _
      rw [hw5]; exact HT4.out.below (Nat.le_refl _) (below_dn (Below.refl _ _) p5)
    clear hw5
    cases hmk : mkOk (s.extract 0 1) (puV (pa (tls s)) : Nat) (exB (pb (tls s))) with
    | false =>
      have HS := Lib.hid (HC.out _ _ (core_m hmk))
      clear hmk
      go_wp2_with fail
      go_ret2
      exact ⟨_, _, HS.out, rfl, HB5.out⟩
    | true =>
    have HMK := Lib.hid hmk
    clear hmk
    go_wp2_with fail
    refine (impl_FormatSingle _ HX1.out _ HT5.out).mono ?_
    rintro en w6 ⟨l, hfs, rfl, b6⟩
    have HB6 := Lib.hid (HB5.out.trans (b6.mono HB5.out.size))
    clear b6
    cases hql : (l == s.toList) with
    | true =>
      have hle : l = s.data.toList := by rw [← Lib.toList_data]; simpa using hql
      have HS := Lib.hid (HC.out _ _ (core_yes HO1.out HO2.out HMK.out (by rw [← hle]; exact hfs)))
      clear hfs hle
      go_wp2_with fail
      go_ret2
      exact ⟨_, _, HS.out, rfl, HB6.out⟩
    | false =>
      have hle : l ≠ s.data.toList := by rw [← Lib.toList_data]; simpa using hql
      have HS := Lib.hid (HC.out _ _ (core_f (fun h => hle (hfs.unique h))))
      clear hfs hle
      go_wp2_with fail
      go_ret2
      exact ⟨_, _, HS.out, rfl, HB6.out⟩
end Go.Proofs.YtpbklllmplimaaaDoor.same
