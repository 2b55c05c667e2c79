/- The decimal text of a whole number, read: the plain law. -/
import Derived.Test.YtpbklllmplimaaaDoorDecF
import Derived.Test.YtpbklllmplimaaaDoorNumL
import Derived.Test.YtpbklllmplimaaaDoorSame64
import Derived.Test.YtpbklllmplimaaaDoorFlInt
namespace Go.Proofs.YtpbklllmplimaaaDoor.dec
open Go.RowKit Fl Ieee same pu
set_option linter.unusedVariables false

theorem ofIntS {N : Nat} (h : N ≤ 16777215) : mg S (floatOfInt .f32 (N : Int)) = N * 2 ^ 149 ∧ floatOfInt .f32 (N : Int) < S.infRung := by
  obtain ⟨r, e, R⟩ := nearest_spec S (fine .f32).p (decide ((N : Int) < 0)) (N : Int).natAbs 0
  obtain ⟨r', hr'⟩ := repr S (N : Int).natAbs 149 (by rw [S_B]; omega)
  have e1 : ((0 : Int) - S.leastPlace).toNat = 149 := by rw [S_L]; rfl
  have e2 : (S.leastPlace - (0 : Int)).toNat = 0 := by rw [S_L]; rfl
  rw [e1, e2] at R
  have hr : r = r' := R.eq_of (Nat.two_pow_pos _) (by rw [hr', Nat.pow_zero, Nat.one_mul])
  subst hr
  have hK : mg S 1266679807 = 16777215 * 2 ^ 149 := by
    have := mg_kept S 149 16777215 (by rw [S_B]; omega) (Or.inr (by rw [S_B]; omega))
    rw [S_B] at this
    rw [show (1266679807 : Nat) = 149 * 8388608 + 16777215 from rfl, this]
  rw [Int.natAbs_natCast] at hr'
  have hle : r ≤ 1266679807 := by
    rw [← mg_le_iff (f := S), hK, hr']; exact Nat.mul_le_mul_right _ h
  have hI : r < S.infRung := by rw [S_I]; omega
  have e3 : floatOfInt .f32 (N : Int) = r := by
    rw [show decide ((N : Int) < 0) = false from by simp] at e
    have : floatOfInt .f32 (N : Int) = out S false r := by
      show S.nearest (decide ((N : Int) < 0)) (N : Int).natAbs 0 = _
      rw [show decide ((N : Int) < 0) = false from by simp]; exact e
    rw [this, gout hI]
  rw [e3]
  exact ⟨hr', hI⟩
/-- the quotient of a whole number's tens is the number, as a single too -/
theorem rd_whole {N k : Nat} (h : N ≤ 16777215) (hk : k ≤ 1) : rdF (10 ^ k * N) k = floatOfInt .f32 (N : Int) := by
  obtain ⟨h1, h2⟩ := ofIntS h
  obtain ⟨z, hz⟩ := isD_ex (n := N) (j := e64) (by omega) (by rw [e64_eq]; omega)
  have h10 : 10 ^ k ≤ 10 := by rcases (by omega : k = 0 ∨ k = 1) with rfl | rfl <;> decide
  have h0 : 0 < 10 ^ k := Nat.pow_pos (by omega)
  have hn : 10 ^ k * N < 9007199254740992 := by
    have := Nat.mul_le_mul h10 h
    omega
  have ha := ofInt64 hn
  have hb := tenW_isD (k := k) (by omega)
  have hq : floatBits .quo .f64 (floatOfInt .f64 ((10 ^ k * N : Nat) : Int)) (tenW k) = some z := by
    refine div_exact ha.1 hb.1 (by rw [hb.2]; exact Nat.mul_pos h0 (Nat.two_pow_pos _)) hz.1 ?_
    rw [ha.2, hb.2, hz.2]
    generalize 2 ^ e64 = T
    generalize 10 ^ k = K
    rw [Nat.mul_assoc K N, Nat.mul_assoc K T, Nat.mul_comm T (N * T), Nat.mul_assoc]
  have hqw : quoW (10 ^ k * N) k = z := by unfold quoW; rw [hq]; rfl
  have hz' : isD z (N * 2 ^ (sh + 149)) := by
    have e : e64 = sh + 149 := by rw [e64_eq, sh_eq]
    rw [← e]; exact hz
  have hd := down_exact hz' h1
  rw [if_pos h2] at hd
  unfold rdF
  rw [hqw, hd]; rfl
theorem rest_mk (c : UInt8) (l : List UInt8) : rest ⟨(c :: l).toArray⟩ = l := by unfold rest; simp
theorem ext1_mk (c : UInt8) (l : List UInt8) : (⟨(c :: l).toArray⟩ : ByteArray).extract 0 1 = ⟨#[c]⟩ := by
  have h : ((⟨(c :: l).toArray⟩ : ByteArray).extract 0 1).data.toList = [c] := by rw [Lib.extract_data]; simp
  apply ByteArray.ext
  exact Array.toList_inj.1 (by rw [h])
theorem dec_len8 {N : Nat} (h : N ≤ 16777215) : (Lib.decDigits N).length ≤ 8 := by
  rw [Lib.decDigits_length]; exact nDigits_le 8 N (by omega) (by omega)
theorem ok_minus : sgnOk ⟨#[45]⟩ = true := by decide +kernel
theorem ok_plus : sgnOk ⟨#[43]⟩ = true := by decide +kernel
theorem v_minus (x : Nat) : sgnV ⟨#[45]⟩ x = Op.negFloat .f32 x := by
  have e1 : (({ data := #[45] } : ByteArray).toList == [43]) = false := by decide +kernel
  have e2 : (({ data := #[45] } : ByteArray).toList == [45]) = true := by decide +kernel
  unfold sgnV; rw [e1, e2, if_neg (by simp), if_pos rfl]
theorem v_plus (x : Nat) : sgnV ⟨#[43]⟩ x = x := by
  have e1 : (({ data := #[43] } : ByteArray).toList == [43]) = true := by decide +kernel
  unfold sgnV; rw [e1, if_pos rfl]
theorem dig48 : ([48] : List UInt8).all isDig = true := by decide +kernel
/-- the two texts -/
theorem whole_minus {N : Nat} (h : N ≤ 16777215) : rdOk ⟨(45 :: Lib.decDigits N).toArray⟩ = true ∧ rdV ⟨(45 :: Lib.decDigits N).toArray⟩ = Op.negFloat .f32 (floatOfInt .f32 (N : Int)) := by
  obtain ⟨d1, d2⟩ := dec_dig N
  have hl := dec_len8 h
  have hne := dec_ne N
  obtain ⟨g1, g2, g3⟩ := good_none d1
  have hg : good (rest ⟨(45 :: Lib.decDigits N).toArray⟩) = true := by
    rw [rest_mk, g1, decide_eq_true hne, decide_eq_true (by omega)]; rfl
  obtain ⟨r1, r2⟩ := rd_good hg
  rw [r1, r2, rest_mk, ext1_mk, g2, g3, d2]
  have hw := rd_whole h (k := 0) (by omega)
  rw [Nat.pow_zero, Nat.one_mul] at hw
  have e0 : ([] : List UInt8).length = 0 := rfl
  rw [e0, hw]
  exact ⟨ok_minus, v_minus _⟩
theorem whole_plus {N : Nat} (h : N ≤ 16777215) : rdOk ⟨(43 :: (Lib.decDigits N ++ [46, 48])).toArray⟩ = true ∧ rdV ⟨(43 :: (Lib.decDigits N ++ [46, 48])).toArray⟩ = floatOfInt .f32 (N : Int) := by
  obtain ⟨d1, d2⟩ := dec_dig N
  have hl := dec_len8 h
  have hne := List.length_pos_iff.2 (dec_ne N)
  have ht : (Lib.decDigits N ++ [46, 48]).take (Lib.decDigits N).length = Lib.decDigits N := List.take_left
  have hdp : (Lib.decDigits N ++ [46, 48]).drop ((Lib.decDigits N).length + 1) = [48] := by rw [List.drop_append]; simp
  obtain ⟨g1, g2, g3⟩ := good_at (r := Lib.decDigits N ++ [46, 48]) (q := (Lib.decDigits N).length) (by simp) (by rw [ht]; exact d1)
  rw [hdp] at g1 g3
  rw [hdp, ht] at g2
  have hg : good (rest ⟨(43 :: (Lib.decDigits N ++ [46, 48])).toArray⟩) = true := by
    rw [rest_mk, g1, decide_eq_true (by omega), decide_eq_true (by simp), dig48, decide_eq_true (by simp; omega)]; rfl
  obtain ⟨r1, r2⟩ := rd_good hg
  rw [r1, r2, rest_mk, ext1_mk, g2, g3, dv_snoc, d2]
  have hw := rd_whole h (k := 1) (by omega)
  rw [Nat.pow_one] at hw
  have e48 : (48 : UInt8).toNat - 48 = 0 := by decide
  have e49 : ([48] : List UInt8).length = 1 := rfl
  rw [e48, Nat.add_zero, e49, hw]
  exact ⟨ok_plus, v_plus _⟩
end Go.Proofs.YtpbklllmplimaaaDoor.dec
