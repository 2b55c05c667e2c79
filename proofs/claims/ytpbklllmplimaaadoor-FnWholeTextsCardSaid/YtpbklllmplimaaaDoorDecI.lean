/- ReadDecimal in package impl, walked. -/
import Derived.Test.YtpbklllmplimaaaDoorDecS
import Derived.Test.YtpbklllmplimaaaDoorCut
import Derived.Test.YtpbklllmplimaaaDoorSignedI
import Derived.Laws.RangeString
import Derived.Laws.RangeAny
import Derived.Laws.Concat
namespace Go.Proofs.YtpbklllmplimaaaDoor.dec
open Go.RowKit Fl same base
set_option linter.unusedVariables false

theorem extract_rest (s : ByteArray) : (s.extract 1 s.size).data.toList = rest s := by
  rw [Lib.extract_to_end]; unfold rest; rw [List.drop_one]
/-- Cut at a point, whatever the text -/
theorem cut_any (u : ByteArray) (hm : u.size ≤ 9223372036854775807) : ∃ (A B : ByteArray) (f : Bool), (∀ w, Calls Tryd.prog 25 #[.string u, .string ⟨#[46]⟩] w (CutE A B f w)) ∧
    A.data.toList = wh u.data.toList ∧ B.data.toList = (tl u.data.toList).tail ∧ f = (tl u.data.toList != []) := by
  by_cases h : ∀ b ∈ u.data.toList, b ≠ 46
  · obtain ⟨h1, h2⟩ := parts_none h
    exact ⟨u, ⟨#[]⟩, false, fun w => cut_miss u 46 h w, h1.symm, by rw [h2]; rfl, by rw [h2]; rfl⟩
  · have hx : ∃ b ∈ u.data.toList, b = 46 := Classical.byContradiction fun hn => h fun b hb e => hn ⟨b, hb, e⟩
    obtain ⟨b, hb, rfl⟩ := hx
    have hex : ∃ q : Nat, u.data.toList[q]? = some 46 ∧ ∀ j : Nat, j < q → u.data.toList[j]? ≠ some 46 := by
      have hsome : ∃ q : Nat, u.data.toList[q]? = some 46 := by
        obtain ⟨q, hq⟩ := List.getElem?_of_mem hb
        exact ⟨q, hq⟩
      obtain ⟨q, hq⟩ := hsome
      induction q using Nat.strongRecOn with
      | ind q ih =>
        by_cases hm : ∃ j, j < q ∧ u.data.toList[j]? = some 46
        · obtain ⟨j, h1, h2⟩ := hm
          exact ih j h1 h2
        · exact ⟨q, hq, fun j h1 h2 => hm ⟨j, h1, h2⟩⟩
    obtain ⟨q, hq, hmin⟩ := hex
    have hne : ∀ b ∈ u.data.toList.take q, b ≠ 46 := by
      rintro b hb rfl
      obtain ⟨j, hj⟩ := List.getElem?_of_mem hb
      have hjq : j < q := by
        have := (List.getElem?_eq_some_iff.1 hj).1
        simp at this; omega
      rw [List.getElem?_take_of_lt hjq] at hj
      exact hmin j hjq hj
    obtain ⟨h1, h2⟩ := parts_at hq hne
    refine ⟨_, _, true, fun w => cut_hit u 46 q hm hq hmin w, ?_, ?_, by rw [h2]; rfl⟩
    · rw [h1, Lib.extract_data]; simp
    · rw [h2, Lib.extract_to_end]; rfl

theorem below_drewN {B n : Nat} {w w' : World} (h : Below B w w') : Below B w (w'.drewN n) := ⟨h.os, h.tape, h.output, h.size, h.block⟩

set_option maxRecDepth 100000 in
set_option maxHeartbeats 4000000 in
theorem impl_ReadDecimal (s : ByteArray) (hm : s.size ≤ 140737488351232) (w : World) : Calls Tryd.prog 16 #[.string s] w (RdE s w) := by
  have hs64 : (Tryd.prog.underlying 26).isSome = true := by rw [Tryd.underlying26]; rfl
  rcases Nat.eq_zero_or_pos s.size with h0 | h0
  · have hse : s.toList = [] := by
      rw [Lib.toList_data]
      exact List.eq_nil_of_length_eq_zero (by rw [← Lib.size_eq]; exact h0)
    have hb : good (rest s) = false := by
      have : rest s = [] := List.eq_nil_of_length_eq_zero (by rw [rest_len]; omega)
      rw [this]; rfl
    have HR := Lib.hid (rd_bad hb)
    go_enter Tryd.func16, Tryd.ntmps16
    go_wp2_with fail
    go_ret2
    exact ⟨by (rw [HR.out.1, HR.out.2] <;> rfl), Below.refl _ _⟩
  · have hse : s.toList.isEmpty = false := by
      rw [Lib.toList_data]
      cases h : s.data.toList with
      | nil => exfalso; have h1 := Lib.size_eq s; rw [h] at h1; have h3 : s.size = 0 := h1; omega
      | cons a l => rfl
    have hxs : (s.extract 1 s.size).size ≤ 9223372036854775807 := by
      rw [Lib.size_eq, extract_rest, rest_len]; omega
    obtain ⟨A, B, f, hcut, hA, hB, hf⟩ := cut_any (s.extract 1 s.size) hxs
    clear hxs
    rw [extract_rest] at hA hB hf
    have hsum : A.size + B.size ≤ s.size := by
      have h1 := Lib.size_eq A; have h2 := Lib.size_eq B
      rw [hA] at h1; rw [hB, List.length_tail] at h2
      have h3 : (rest s).length = (wh (rest s)).length + (tl (rest s)).length := by
        conv => lhs; rw [show rest s = wh (rest s) ++ tl (rest s) from by unfold wh tl; exact (List.takeWhile_append_dropWhile).symm]
        rw [List.length_append]
      rw [rest_len] at h3
      omega
    have HCUT := Lib.hid hcut
    have HA := Lib.hid hA; have HBB := Lib.hid hB; have HF := Lib.hid hf
    have hgood : Hid (good (rest s) = ((A.data.toList != []) && (!f || B.data.toList != []) && (A.data.toList ++ B.data.toList).all isDig && decide (A.size + B.size ≤ 15))) := by
      show _ = _
      unfold good figs
      rw [hA, hB, hf]
      have e : (wh (rest s) ++ (tl (rest s)).tail).length = A.size + B.size := by
        rw [List.length_append, ← hA, ← hB, Lib.size_eq A, Lib.size_eq B]
      rw [e]
      cases ht : tl (rest s) with
      | nil => rfl
      | cons a l => rfl
    clear hcut hA hB hf
    rcases Nat.eq_zero_or_pos A.size with hA0 | hA0
    · have hAe : A.toList = [] := by
        rw [Lib.toList_data]; exact List.eq_nil_of_length_eq_zero (by rw [← Lib.size_eq]; exact hA0)
      have hb : good (rest s) = false := by
        rw [hgood.out]
        have : A.data.toList = [] := by rw [← Lib.toList_data]; exact hAe
        rw [this]; rfl
      have HR := Lib.hid (rd_bad hb)
      clear hb hA0
      go_enter Tryd.func16, Tryd.ntmps16
      go_wp2_with fail
      refine (HCUT.out _).mono ?_
      rintro en w1 ⟨rfl, n, rfl⟩
      go_wp2_with fail
      go_ret2
      exact ⟨by (rw [HR.out.1, HR.out.2] <;> rfl), below_drewN (Below.refl _ _)⟩
    have ne_of : ∀ C : ByteArray, 0 < C.size → C.toList.isEmpty = false ∧ (C.data.toList != []) = true := by
      intro C hC
      have h1 := Lib.size_eq C
      rw [Lib.toList_data]
      cases h : C.data.toList with
      | nil => exfalso; rw [h] at h1; have h3 : C.size = 0 := h1; omega
      | cons a l => exact ⟨rfl, rfl⟩
    obtain ⟨hA1, hA2⟩ := ne_of A hA0
    have HNE := Lib.hid ne_of
    have HA2 := Lib.hid hA2
    clear ne_of hA2
    by_cases hfB : f = true ∧ B.size = 0
    · obtain ⟨rfl, hB0⟩ := hfB
      have hBe : B.toList = [] := by
        rw [Lib.toList_data]; exact List.eq_nil_of_length_eq_zero (by rw [← Lib.size_eq]; exact hB0)
      have hb : good (rest s) = false := by
        rw [hgood.out]
        have : B.data.toList = [] := by rw [← Lib.toList_data]; exact hBe
        rw [this]; simp
      have HR := Lib.hid (rd_bad hb)
      clear hb hB0
      go_enter Tryd.func16, Tryd.ntmps16
      go_wp2_with fail
      refine (HCUT.out _).mono ?_
      rintro en w1 ⟨rfl, n, rfl⟩
      go_wp2_with fail
      go_ret2
      exact ⟨by (rw [HR.out.1, HR.out.2] <;> rfl), below_drewN (Below.refl _ _)⟩
    have hfw : (f = false ∨ (f = true ∧ B.toList.isEmpty = false)) ∧ (!f || B.data.toList != []) = true := by
      cases f with
      | false => exact ⟨Or.inl rfl, rfl⟩
      | true =>
        have hB0 : 0 < B.size := by
          rcases Nat.eq_zero_or_pos B.size with h | h
          · exact absurd ⟨rfl, h⟩ hfB
          · exact h
        obtain ⟨b1, b2⟩ := HNE.out B hB0
        exact ⟨Or.inr ⟨rfl, b1⟩, by rw [b2]; rfl⟩
    obtain ⟨hfw, hfg⟩ := hfw
    have HFG := Lib.hid hfg
    clear hfB hfg
    by_cases hlen : A.size + B.size ≤ 15
    · obtain ⟨G, hG⟩ : ∃ G : ByteArray, A ++ B = G := ⟨_, rfl⟩
      have hGs : G.size = A.size + B.size := by rw [← hG]; exact ByteArray.size_append
      have hGl : G.data.toList = A.data.toList ++ B.data.toList := by rw [← hG]; simp
      have HG := Lib.hid hG; have HGL := Lib.hid hGl; have HGS := Lib.hid hGs
      have hG15 : G.size ≤ 15 := by omega
      clear hG hGl hGs
      rcases hfw with rfl | ⟨rfl, hB1⟩
      all_goals
        go_enter Tryd.func16, Tryd.ntmps16
        go_wp2_with fail
        refine (HCUT.out _).mono ?_
        rintro en w1 ⟨rfl, n, rfl⟩
        have HW0 : Below w.heap.size w (w.drewN n) := below_drewN (Below.refl _ _)
        generalize w.drewN n = W at HW0 ⊢
        have HW := Lib.hid HW0
        clear HW0
        go_wp2_with fail
        rw [HG.out]
        go_loop [8, 10] (fun d i => ∃ k : Nat, k ≤ G.size ∧ i = .int .i64 k ∧ (G.data.toList.take k).all isDig = true ∧ d = .int .i64 (dv (G.data.toList.take k) : Nat)) (fun _ i => G.size - (intOf i).toNat)
        case atStart => exact ⟨0, Nat.zero_le _, rfl, by simp, rfl⟩
        case round =>
          obtain ⟨k, hk, rfl, hall, rfl⟩ := hrel
          have hdb := lst_bound hall (n := k) (by simp; omega) (by omega)
          obtain ⟨dd, hdd⟩ : ∃ dd : Nat, dv (G.data.toList.take k) = dd := ⟨_, rfl⟩
          rw [hdd] at hdb ⊢
          have HALL := Lib.hid hall; have HDD := Lib.hid hdd
          clear hall hdd
          by_cases hlt : k < G.size
          · have hc : G.data.toList[k]? = some G[k] := by
              rw [List.getElem?_eq_getElem (by simpa using hlt)]; rfl
            have HC := Lib.hid hc
            have hb := G[k].toNat_lt
            clear hc
            cases hd : isDig G[k] with
            | true =>
              obtain ⟨b1, b2⟩ := (isDig_iff _).1 hd
              have HD := Lib.hid hd
              clear hd
              go_wp2_with fail
              go_round
              case rel =>
                have e := take_snoc' HC.out
                refine ⟨k + 1, by omega, by go_num, by rw [e]; exact all_snoc HALL.out HD.out, ?_⟩
                rw [e, dv_snoc, HDD.out]
                first | (congr 1; done) | (congr 1; omega)
              case measure => simp [intOf]; omega
            | false =>
              have hnd : G[k].toNat < 48 ∨ 57 < G[k].toNat := by
                have := mt (isDig_iff G[k]).2 (by rw [hd]; simp); omega
              have hb2 : good (rest s) = false := by
                rw [hgood.out, ← HGL.out]
                have : G.data.toList.all isDig = false := by
                  cases ha : G.data.toList.all isDig with
                  | false => rfl
                  | true =>
                    have := List.all_eq_true.1 ha _ (List.mem_of_getElem? HC.out)
                    rw [hd] at this; cases this
                rw [this]; simp
              have HR := Lib.hid (rd_bad hb2)
              clear hb2 hd
              rcases hnd with h48 | h48
              all_goals
                (go_wp2_with fail
                 go_ret2
                 exact ⟨by (rw [HR.out.1, HR.out.2] <;> rfl), HW.out⟩)
          · obtain rfl : k = G.size := by omega
            have htk : G.data.toList.take G.size = G.data.toList := List.take_of_length_le (by show G.data.size ≤ _; exact Nat.le_refl _)
            have hallG : G.data.toList.all isDig = true := by have := HALL.out; rw [htk] at this; exact this
            have hg : good (rest s) = true := by
              rw [hgood.out, ← HGL.out, HA2.out, HFG.out, hallG, decide_eq_true hlen]; rfl
            have HR := Lib.hid (rd_good hg)
            obtain ⟨hd1, hk1⟩ := dv_bound hg
            have hfg : figs (rest s) = G.data.toList := by unfold figs; rw [HGL.out, HA.out, HBB.out]
            have htl : (tl (rest s)).tail.length = B.size := by rw [← HBB.out, Lib.size_eq]
            rw [hfg] at hd1
            rw [htl] at hk1
            have hdd : dv G.data.toList = dd := by have := HDD.out; rw [htk] at this; exact this
            rw [hdd] at hd1
            have HFG2 := Lib.hid hfg; have HTL := Lib.hid htl; have HDG := Lib.hid hdd
            have HRR := Lib.hid (rd_run hd1 hk1)
            have hBd : Hid (∀ j (hj : j < B.size), B[j].toNat < 128) := by
              show ∀ j (hj : j < B.size), B[j].toNat < 128
              intro j hj
              have hm : B[j] ∈ G.data.toList := by
                rw [HGL.out]
                refine List.mem_append_right _ ?_
                exact List.mem_of_getElem? (i := j) (by rw [List.getElem?_eq_getElem (by simpa using hj)]; rfl)
              have := (isDig_iff _).1 (List.all_eq_true.1 hallG _ hm)
              omega
            clear htk hallG hg hfg htl hdd hd1 hdb hlt
            go_wp2_with fail
            go_loopw [9] (fun b wr => ∃ j : Nat, wr = W.iter B j ∧ j ≤ B.size ∧ b = .float .f64 (tenW j)) (fun _ wr => B.size - wr.iterPos W.heap.size)
            case atStart => exact ⟨0, rfl, Nat.zero_le _, by rw [tenW_zero]⟩
            case round =>
              obtain ⟨j, rfl, hj, rfl⟩ := hrel
              by_cases hjB : j < B.size
              · have hnx : ∀ ty, (Instr.next (.pointer (some ⟨W.heap.size, 0, none⟩)) true ty).run Tryd.prog (W.iter B j) = _ := fun ty => run_next_ascii W B j ty hjB (hBd.out j hjB)
                have q1 := fun W : World => run_float_arith (P := Tryd.prog) W .mul 26 .f64 _ _ _ (ten_step (k := j) (by omega))
                go_wp2_with fail
                go_roundw
                case rel => exact ⟨j + 1, rfl, by omega, rfl⟩
                case measure => simp; omega
              · obtain rfl : j = B.size := by omega
                have hnx : ∀ ty, (Instr.next (.pointer (some ⟨W.heap.size, 0, none⟩)) true ty).run Tryd.prog (W.iter B B.size) = _ := fun ty => run_next_end W B B.size ty hjB
                obtain ⟨r1, r2, r3⟩ := HRR.out
                have q1 := fun W : World => run_float_arith (P := Tryd.prog) W .quo 26 .f64 _ _ _ r1
                have q2 := fun W : World => run_convert_float_float (P := Tryd.prog) W 26 22 .f64 .f32 _ _ hs64 Tryd.underlying22 r2
                clear r1 r2 r3
                go_wp2_with fail
                refine (impl_Signed (s.extract 0 1) _ _).mono ?_
                rintro en w1 ⟨rfl, rfl⟩
                go_wp2_with fail
                go_ret2
                exact ⟨by (rw [HR.out.1, HR.out.2, HFG2.out, HTL.out, HDG.out] <;> rfl), HW.out.alloc HW.out.size _⟩
    · have hb : good (rest s) = false := by
        rw [hgood.out, decide_eq_false hlen]; simp
      have HR := Lib.hid (rd_bad hb)
      clear hb
      rcases hfw with rfl | ⟨rfl, hB1⟩
      all_goals
        (go_enter Tryd.func16, Tryd.ntmps16
         go_wp2_with fail
         refine (HCUT.out _).mono ?_
         rintro en w1 ⟨rfl, n, rfl⟩
         go_wp2_with fail
         go_ret2
         exact ⟨by (rw [HR.out.1, HR.out.2] <;> rfl), below_drewN (Below.refl _ _)⟩)
end Go.Proofs.YtpbklllmplimaaaDoor.dec
