/- SplitFields in package spec, walked. -/
import Derived.Test.YtmpeolnnfblbkaaDoorSfI
namespace Go.Proofs.YtmpeolnnfblbkaaDoor.sf
open Go.RowKit base
set_option linter.unusedVariables false

theorem runF_len (l : List UInt8) : (runF l).1.length + (runF l).2.length ≤ l.length := by
  have key : ∀ (l : List UInt8) (p : List (List UInt8) × List UInt8), (l.foldl stepF p).1.length + (l.foldl stepF p).2.length ≤ p.1.length + p.2.length + l.length := by
    intro l
    induction l with
    | nil => intro p; simp
    | cons c l ih =>
      intro p
      rw [List.foldl_cons]
      have h1 := ih (stepF p c)
      have h2 : (stepF p c).1.length + (stepF p c).2.length ≤ p.1.length + p.2.length + 1 := by
        unfold stepF
        split
        · split
          · simp <;> omega
          · rename_i h
            have := List.length_pos_iff.2 h
            simp <;> omega
        · simp <;> omega
      simp only [List.length_cons]; omega
  have := key l ([], [])
  simpa [runF] using this
theorem strs_snoc (D : List (List UInt8)) (x : ByteArray) : strs D ++ [.string x] = strs (D ++ [x.data.toList]) := by
  unfold strs
  rw [List.map_append, List.map_cons, List.map_nil, eta]
theorem step_no {l : List UInt8} {c : UInt8} (h : c ≠ 32) : runF (l ++ [c]) = ((runF l).1, (runF l).2 ++ [c]) := by rw [runF_snoc]; unfold stepF; rw [if_neg h]
theorem step_nil {l : List UInt8} (h : (runF l).2 = []) : runF (l ++ [32]) = ((runF l).1, []) := by rw [runF_snoc]; unfold stepF; rw [if_pos rfl, if_pos h]
theorem step_cut {l : List UInt8} (h : (runF l).2 ≠ []) : runF (l ++ [32]) = ((runF l).1 ++ [(runF l).2], []) := by rw [runF_snoc]; unfold stepF; rw [if_pos rfl, if_neg h]
theorem ext_bk (s : ByteArray) (b k : Nat) : (s.extract b k).data.toList = (s.data.toList.take k).drop b := by
  rw [Lib.extract_data, List.drop_take]
theorem drop_nil {s : ByteArray} {b k : Nat} (hk : k ≤ s.size) (hb : b ≤ k) : (s.data.toList.take k).drop b = [] ↔ b = k := by
  rw [List.drop_eq_nil_iff, List.length_take, s_len]; omega
theorem drop_app {s : ByteArray} {b k : Nat} (h : k < s.size) (hb : b ≤ k) : (s.data.toList.take (k + 1)).drop b = (s.data.toList.take k).drop b ++ [s[k]] := by
  rw [s_take s k h, List.drop_append_of_le_length (by rw [List.length_take, s_len]; omega)]

/-- the state at byte k: the part at hand begins at b -/
def At (s : ByteArray) (w wr : World) (v : Value) (k b : Nat) : Prop :=
  (k ≤ s.size ∧ b ≤ k ∧ (s.data.toList.take k).all inR = true ∧ (runF (s.data.toList.take k)).2 = (s.data.toList.take k).drop b ∧ wr.ownsRow w.heap.size 9 1 v (runF (s.data.toList.take k)).1.length (strs (runF (s.data.toList.take k)).1)) ∨
  (k = s.size + 1 ∧ s.data.toList.all inR = true ∧ wr.ownsRow w.heap.size 9 1 v (fields s.data.toList).length (strs (fields s.data.toList)))

set_option maxHeartbeats 4000000 in
theorem spec_SplitFields (s : ByteArray) (hmx : s.size ≤ 9223372036854775807) (w : World) : Calls Tryd.prog 13 #[.string s] w (SfE s.data.toList w) := by
  obtain ⟨i0, hi, hz0, hz1, hz2⟩ := info_parts (P := Tryd.prog) (e := 9) (z := .string ByteArray.empty) (size := 1) (bytes := 16) (by kernel_rfl)
  have OW0 := Lib.hid (World.ownsRow_lit (base := w.heap.size) (e := 9) (size := 1) w #[] 0 (Nat.le_refl _) (by omega) rfl)
  have B0 : Hid (Below w.heap.size w (w.alloc (.cells #[] 9))) := (Below.refl _ _).alloc (Nat.le_refl _) _
  by_cases hs : 600 < s.size
  · have HR := Lib.hid (sf_no (sf_long (l := s.data.toList) (by rw [s_len]; exact hs)))
    go_enter Tryd.func13, Tryd.ntmps13
    go_wp2_with fail
    go_ret2
    exact ⟨_, by (rw [HR.out.1] <;> rfl), by rw [HR.out.2]; simpa [strs] using OW0.out, B0.out⟩
  have hs6 : s.size ≤ 600 := by omega
  clear hs hmx
  go_enter Tryd.func13, Tryd.ntmps13
  go_wp2_with fail
  go_loopw [4, 5, 6] (fun v bg i wr => ∃ k b : Nat, i = .int .i64 k ∧ bg = .int .i64 b ∧ At s w wr v k b ∧ Below w.heap.size w wr) (fun _ _ i _ => s.size + 1 - (intOf i).toNat)
  case atStart => exact ⟨0, 0, rfl, rfl, Or.inl ⟨Nat.zero_le _, Nat.le_refl _, by simp, by simp [runF], by simpa [runF, strs] using OW0.out⟩, B0.out⟩
  case round =>
    obtain ⟨k, b, rfl, rfl, hat, hbel⟩ := hrel
    have HB := Lib.hid hbel
    clear hbel
    rcases hat with ⟨hk, hbk, hall, hcur, hown⟩ | ⟨rfl, hall, hown⟩
    · have HA := Lib.hid hall
      have HCU := Lib.hid hcur
      have HO := Lib.hid hown
      have hdl : (runF (s.data.toList.take k)).1.length ≤ 600 := by
        have h1 := runF_len (s.data.toList.take k)
        rw [List.length_take, s_len] at h1; omega
      have hsl : ∀ W, (Instr.slice 9 (.string s) (some (.int .i64 (b : Int))) (some (.int .i64 (k : Int))) none).run Tryd.prog W = .ok (.string (s.extract b k)) W := fun W => by
        rw [run_slice_string W _ _ .i64 .i64 (b : Int) (k : Int) Tryd.underlying9 (by omega) (by omega) (by omega)]; rfl
      obtain ⟨x, hxe⟩ : ∃ x : ByteArray, s.extract b k = x := ⟨_, rfl⟩
      rw [hxe] at hsl
      have hxl : x.data.toList = (s.data.toList.take k).drop b := by rw [← hxe, ext_bk]
      have HX := Lib.hid hxl
      obtain ⟨D, hD⟩ : ∃ D, (runF (s.data.toList.take k)).1 = D := ⟨_, rfl⟩
      rw [hD] at HO hdl
      have HDD := Lib.hid hD
      have OWA := Lib.hid (HO.out.alloc (.cells #[.string x] 9))
      have HBA := Lib.hid (HB.out.alloc HB.out.size (.cells #[.string x] 9))
      clear hall hcur hown hxe hxl hD
      by_cases hlt : k < s.size
      · have hb := s[k].toNat_lt
        cases hd : inR s[k] with
        | false =>
          have HR := Lib.hid (sf_no (sf_bad (s_get s k hlt) hd))
          have hlo : s[k].toNat < 32 ∨ (32 ≤ s[k].toNat ∧ 126 < s[k].toNat) := by
            have := mt (inR_iff s[k]).2 (by rw [hd]; simp); omega
          have OWL := Lib.hid (World.ownsRow_lit (base := w.heap.size) (e := 9) (size := 1) wr #[] 0 HB.out.size (by omega) rfl)
          have HBL := Lib.hid (HB.out.alloc HB.out.size (.cells #[] 9))
          clear hd
          rcases hlo with hlo | ⟨hlo1, hlo⟩
          all_goals
            (go_wp2_with fail
             go_ret2
             exact ⟨_, by (rw [HR.out.1] <;> rfl), by rw [HR.out.2]; simpa [strs] using OWL.out, HBL.out⟩)
        | true =>
          obtain ⟨b1, b2⟩ := (inR_iff _).1 hd
          have HA1 : Hid ((s.data.toList.take (k + 1)).all inR = true) := by
            show _ = _
            rw [s_take s k hlt, List.all_append, HA.out]; simp [hd]
          clear hd
          by_cases h32 : s[k] = 32
          · have hcb : ((s[k].toNat : Int) != 32) = false := by rw [h32]; rfl
            have hcb2 : ((s[k].toNat : Int) == 32) = true := by rw [h32]; rfl
            by_cases hlb : b < k
            · have hst := step_cut (l := s.data.toList.take k) (by rw [HCU.out]; intro h; have := (drop_nil hk hbk).1 h; omega)
              rw [← h32, ← s_take s k hlt, HDD.out, HCU.out, ← HX.out] at hst
              have HST := Lib.hid hst
              clear hst h32
              go_wp2_with (at_builtin; refine wpList_append_own _ rfl _ _ 27 rfl w.heap.size 9 i0 (.string ByteArray.empty) 1 16 Tryd.underlying27 hi hz0 hz1 hz2 rfl (by decide) _ _ _ rfl OWA.out ⟨_, 0, none⟩ 1 1 [.string x] rfl rfl (news1 _ _ _ (by simp)) (by simp [Value.oneCell']) (by unfold maxLen; omega) (by omega) (HBA.out.size) ?_; intro v8 w8 own8 gr8 _)
              have OW8 := Lib.hid own8
              have HB8 := Lib.hid (below_row HBA.out gr8 (fun b e => (OWA.out.lt b e).1))
              clear own8 gr8
              go_wp2_with fail
              go_roundw
              case rel => exact ⟨k + 1, k + 1, by go_num, by go_num, Or.inl ⟨hlt, Nat.le_refl _, HA1.out, by rw [HST.out, (drop_nil hlt (Nat.le_refl _)).2 rfl], by rw [HST.out]; have := OW8.out; rw [strs_snoc] at this; simpa using this⟩, HB8.out⟩
              case measure => (simp [intOf] <;> omega)
            · obtain rfl : b = k := by omega
              have hst := step_nil (l := s.data.toList.take b) (by rw [HCU.out]; exact (drop_nil hk (Nat.le_refl _)).2 rfl)
              rw [← h32, ← s_take s b hlt, HDD.out] at hst
              have HST := Lib.hid hst
              clear hst h32
              go_wp2_with fail
              go_roundw
              case rel => exact ⟨b + 1, b + 1, by go_num, by go_num, Or.inl ⟨hlt, Nat.le_refl _, HA1.out, by rw [HST.out, (drop_nil hlt (Nat.le_refl _)).2 rfl], by rw [HST.out]; exact HO.out⟩, HB.out⟩
              case measure => (simp [intOf] <;> omega)
          · have hcb : ((s[k].toNat : Int) != 32) = true := by
              have : s[k].toNat ≠ 32 := fun h => h32 (UInt8.toNat_inj.1 (by rw [h]; rfl))
              exact bne_iff_ne.2 (by omega)
            have hcb2 : ((s[k].toNat : Int) == 32) = false := by
              have : s[k].toNat ≠ 32 := fun h => h32 (UInt8.toNat_inj.1 (by rw [h]; rfl))
              exact beq_eq_false_iff_ne.2 (by omega)
            have hst := step_no (l := s.data.toList.take k) h32
            rw [← s_take s k hlt, HDD.out, HCU.out, ← drop_app hlt hbk] at hst
            have HST := Lib.hid hst
            clear hst h32
            go_wp2_with fail
            go_roundw
            case rel => exact ⟨k + 1, b, by go_num, rfl, Or.inl ⟨hlt, by omega, HA1.out, by rw [HST.out], by rw [HST.out]; exact HO.out⟩, HB.out⟩
            case measure => (simp [intOf] <;> omega)
      · obtain rfl : k = s.size := by omega
        have htk := s_all s
        rw [htk] at HA
        by_cases hlb : b < s.size
        · have hfl : fields s.data.toList = D ++ [x.data.toList] := by
            unfold fields flush
            rw [← htk, HDD.out, HCU.out, if_neg (fun h => by have := (drop_nil (Nat.le_refl _) hbk).1 h; omega), ← HX.out]
          have HFL := Lib.hid hfl
          clear hfl htk
          go_wp2_with (at_builtin; refine wpList_append_own _ rfl _ _ 27 rfl w.heap.size 9 i0 (.string ByteArray.empty) 1 16 Tryd.underlying27 hi hz0 hz1 hz2 rfl (by decide) _ _ _ rfl OWA.out ⟨_, 0, none⟩ 1 1 [.string x] rfl rfl (news1 _ _ _ (by simp)) (by simp [Value.oneCell']) (by unfold maxLen; omega) (by omega) (HBA.out.size) ?_; intro v8 w8 own8 gr8 _)
          have OW8 := Lib.hid own8
          have HB8 := Lib.hid (below_row HBA.out gr8 (fun b e => (OWA.out.lt b e).1))
          clear own8 gr8
          go_wp2_with fail
          go_roundw
          case rel => exact ⟨s.size + 1, s.size + 1, by go_num, by go_num, Or.inr ⟨rfl, HA.out, by rw [HFL.out]; have := OW8.out; rw [strs_snoc] at this; simpa using this⟩, HB8.out⟩
          case measure => (simp [intOf] <;> omega)
        · obtain rfl : b = s.size := by omega
          have hfl : fields s.data.toList = D := by
            unfold fields flush
            rw [← htk, HDD.out, HCU.out, if_pos ((drop_nil (Nat.le_refl _) (Nat.le_refl _)).2 rfl)]
          have HFL := Lib.hid hfl
          clear hfl htk
          go_wp2_with fail
          go_roundw
          case rel => exact ⟨s.size + 1, s.size + 1, by go_num, by go_num, Or.inr ⟨rfl, HA.out, by rw [HFL.out]; exact HO.out⟩, HB.out⟩
          case measure => (simp [intOf] <;> omega)
    · have HA := Lib.hid hall
      have HOF := Lib.hid hown
      obtain ⟨L, hL⟩ : ∃ L : Nat, (fields s.data.toList).length = L := ⟨_, rfl⟩
      by_cases hmany : 24 < L
      · have HR := Lib.hid (sf_no (sf_many (l := s.data.toList) (by rw [hL]; exact hmany)))
        have OWL := Lib.hid (World.ownsRow_lit (base := w.heap.size) (e := 9) (size := 1) wr #[] 0 HB.out.size (by omega) rfl)
        have HBL := Lib.hid (HB.out.alloc HB.out.size (.cells #[] 9))
        rw [hL] at hown
        have hv := hown.2
        clear hown hall hL
        rcases hv with ⟨rfl, h0⟩ | ⟨g, cap, cur, rfl, _, _, _, _, _, _⟩
        · omega
        · go_wp2_with fail
          go_ret2
          exact ⟨_, by (rw [HR.out.1] <;> rfl), by rw [HR.out.2]; simpa [strs] using OWL.out, HBL.out⟩
      · have HR := Lib.hid (sf_yes (sf_good (l := s.data.toList) (by rw [s_len]; exact hs6) HA.out (by rw [hL]; omega)))
        rw [hL] at hown
        have hv := hown.2
        clear hown hall hL
        rcases hv with ⟨rfl, rfl⟩ | ⟨g, cap, cur, rfl, _, _, _, _, _, _⟩
        all_goals
          (go_wp2_with fail
           go_ret2
           exact ⟨_, by (rw [HR.out.1] <;> rfl), by rw [HR.out.2]; exact HOF.out, HB.out⟩)
end Go.Proofs.YtmpeolnnfblbkaaDoor.sf
