/- SplitFields in package impl, walked. -/
import Derived.Test.YtmpeolnnfblbkaaDoorSfL
import Derived.Test.YtmpeolnnfblbkaaDoorShelf
import Derived.Test.YtmpeolnnfblbkaaDoorOwnStep
import Derived.OwnWalk
import Derived.Deep.Onto
import Derived.LoopTactic
import Derived.IntWalk
import Derived.Lib.CutLaws
namespace Go.Proofs.YtmpeolnnfblbkaaDoor.sf
open Go.RowKit base
set_option linter.unusedVariables false

def inR (b : UInt8) : Bool := decide (32 ≤ b.toNat) && decide (b.toNat ≤ 126)
theorem inR_iff (b : UInt8) : inR b = true ↔ 32 ≤ b.toNat ∧ b.toNat ≤ 126 := by unfold inR; simp
def sfOk (l : List UInt8) : Bool := decide (l.length ≤ 600) && l.all inR && decide ((fields l).length ≤ 24)
def sfV (l : List UInt8) : List (List UInt8) := if sfOk l then fields l else []
def strs (L : List (List UInt8)) : List Value := L.map fun x => .string ⟨x.toArray⟩
theorem strs_len (L : List (List UInt8)) : (strs L).length = L.length := by simp [strs]
/-- what SplitFields tells: a row of the call's own, and is it taken -/
def SfE (l : List UInt8) (w : World) (e : Ending) (w' : World) : Prop := ∃ v, e = .returned (.tuple #[v, .bool (sfOk l)]) ∧ w'.ownsRow w.heap.size 9 1 v (sfV l).length (strs (sfV l)) ∧ Below w.heap.size w w'
theorem sf_no {l : List UInt8} (h : sfOk l = false) : sfOk l = false ∧ sfV l = [] := ⟨h, by unfold sfV; rw [h]; rfl⟩
theorem sf_yes {l : List UInt8} (h : sfOk l = true) : sfOk l = true ∧ sfV l = fields l := ⟨h, by unfold sfV; rw [h]; rfl⟩
theorem sf_long {l : List UInt8} (h : 600 < l.length) : sfOk l = false := by unfold sfOk; rw [decide_eq_false (by omega)]; rfl
theorem sf_bad {l : List UInt8} {k : Nat} {b : UInt8} (h : l[k]? = some b) (hb : inR b = false) : sfOk l = false := by
  unfold sfOk
  have : l.all inR = false := by
    cases ha : l.all inR with
    | false => rfl
    | true => have := List.all_eq_true.1 ha _ (List.mem_of_getElem? h); rw [hb] at this; cases this
  rw [this]; simp
theorem sf_many {l : List UInt8} (h : 24 < (fields l).length) : sfOk l = false := by unfold sfOk; rw [decide_eq_false (show ¬ (fields l).length ≤ 24 by omega)]; simp
theorem sf_good {l : List UInt8} (h1 : l.length ≤ 600) (h2 : l.all inR = true) (h3 : (fields l).length ≤ 24) : sfOk l = true := by unfold sfOk; rw [decide_eq_true h1, h2, decide_eq_true h3]; rfl
theorem s_len (s : ByteArray) : s.data.toList.length = s.size := by show _ = s.data.size; simp
theorem s_get (s : ByteArray) (k : Nat) (h : k < s.size) : s.data.toList[k]? = some s[k] := by
  rw [List.getElem?_eq_getElem (by simpa using h)]; rfl
theorem s_take (s : ByteArray) (k : Nat) (h : k < s.size) : s.data.toList.take (k + 1) = s.data.toList.take k ++ [s[k]] := by
  rw [List.take_succ_eq_append_getElem (by simpa using h)]; rfl
theorem s_all (s : ByteArray) : s.data.toList.take s.size = s.data.toList := List.take_of_length_le (by show s.data.size ≤ _; exact Nat.le_refl _)
theorem eta (x : ByteArray) : (⟨x.data.toList.toArray⟩ : ByteArray) = x := by cases x; simp
theorem strs_of (Q : List ByteArray) : strs (Q.map fun x => x.data.toList) = Q.map Value.string := by
  unfold strs
  rw [List.map_map]
  apply List.map_congr_left
  intro x _
  show Value.string ⟨x.data.toList.toArray⟩ = _
  rw [eta]
/-- the pieces of a line -/
def pcs (s : ByteArray) : List ByteArray := Lib.splitB ⟨#[32]⟩ 0 (Lib.countB s ⟨#[32]⟩) s
def ne (x : ByteArray) : Bool := x.data.toList != []
theorem pcs_fields (s : ByteArray) : ((pcs s).filter ne).map (fun x => x.data.toList) = fields s.data.toList := by
  have h1 := Lib.splitB_data ⟨#[32]⟩ 0 (Lib.countB s ⟨#[32]⟩) s
  have h2 := split_fields (Lib.countB s ⟨#[32]⟩) s.data.toList (by show _ ≤ Lib.count s.data.toList [32]; rw [Lib.count_one]; exact Nat.le_refl _)
  rw [show (⟨#[32]⟩ : ByteArray).data.toList = [32] from rfl] at h1
  rw [← h1, List.filter_map] at h2
  exact h2
theorem pcs_len (s : ByteArray) : (pcs s).length = Lib.countB s ⟨#[32]⟩ + 1 := Lib.splitB_all ⟨#[32]⟩ (by decide) 0 _ s rfl
theorem cnt_le (s : ByteArray) : Lib.countB s ⟨#[32]⟩ ≤ s.size := Lib.countB_le ⟨#[32]⟩ (by decide) s.size s (Nat.le_refl _)

/-- the cell of the library's variable holds some number -/
def MaxI (w : World) : Prop := ∃ m : Int, w.cell? ⟨1, 0, none⟩ = some (.int .i64 m)

set_option maxHeartbeats 2000000 in
theorem impl_SplitFields (s : ByteArray) (hmx : s.size ≤ 9223372036854775807) (w : World) (hM : MaxI w) : Calls Tryd.prog 14 #[.string s] w (SfE s.data.toList w) := by
  obtain ⟨i0, hi, hz0, hz1, hz2⟩ := info_parts (P := Tryd.prog) (e := 9) (z := .string ByteArray.empty) (size := 1) (bytes := 16) (by kernel_rfl)
  obtain ⟨m, hm⟩ := hM
  by_cases hs : 600 < s.size
  · have HR := Lib.hid (sf_no (sf_long (l := s.data.toList) (by rw [s_len]; exact hs)))
    clear hm
    go_enter Tryd.func14, Tryd.ntmps14
    go_wp2_with fail
    go_ret2
    exact ⟨.slice none 0 0, by (rw [HR.out.1] <;> rfl), by rw [HR.out.2]; exact World.ownsRow_nil _ _ _ _, Below.refl _ _⟩
  have hs6 : s.size ≤ 600 := by omega
  have HM := Lib.hid hm
  clear hs hmx hm
  go_enter Tryd.func14, Tryd.ntmps14
  go_wp2_with fail
  go_loop [4] (fun i => ∃ k : Nat, k ≤ s.size ∧ i = .int .i64 k ∧ (s.data.toList.take k).all inR = true) (fun i => s.size - (intOf i).toNat)
  case atStart => exact ⟨0, Nat.zero_le _, rfl, by simp⟩
  case round =>
    obtain ⟨k, hk, rfl, hall⟩ := hrel
    have HA := Lib.hid hall
    clear hall
    by_cases hlt : k < s.size
    · have hb := s[k].toNat_lt
      cases hd : inR s[k] with
      | false =>
        have HR := Lib.hid (sf_no (sf_bad (s_get s k hlt) hd))
        have hlo : s[k].toNat < 32 ∨ (32 ≤ s[k].toNat ∧ 126 < s[k].toNat) := by
          have := mt (inR_iff s[k]).2 (by rw [hd]; simp); omega
        clear hd
        rcases hlo with hlo | ⟨hlo1, hlo⟩
        all_goals
          (go_wp2_with fail
           go_ret2
           exact ⟨.slice none 0 0, by (rw [HR.out.1] <;> rfl), by rw [HR.out.2]; exact World.ownsRow_nil _ _ _ _, Below.refl _ _⟩)
      | true =>
        obtain ⟨b1, b2⟩ := (inR_iff _).1 hd
        have HA1 : Hid ((s.data.toList.take (k + 1)).all inR = true) := by
          show _ = _
          rw [s_take s k hlt, List.all_append, HA.out]; simp [hd]
        clear hd
        go_wp2_with fail
        go_round
        case rel => exact ⟨k + 1, by omega, by go_num, HA1.out⟩
        case measure => simp [intOf]; omega
    · obtain rfl : k = s.size := by omega
      rw [s_all] at HA
      go_wp2_with fail
      refine (Tryd.strings_Split s ⟨#[32]⟩ m _ (by omega) HM.out (by decide)).mono ?_
      rintro en w1 ⟨rfl, rfl⟩
      rw [show (Lib.splitB ⟨#[32]⟩ 0 (Lib.countB s ⟨#[32]⟩) s) = pcs s from rfl]
      have hcl := pcs_len s
      have hcn := cnt_le s
      obtain ⟨B, hB⟩ : ∃ B : Nat, w.heap.size = B := ⟨_, rfl⟩
      obtain ⟨w0, hw0⟩ : ∃ w0 : World, w.alloc (.cells ((pcs s).map Value.string).toArray 9) = w0 := ⟨_, rfl⟩
      have hsz : w0.heap.size = B + 1 := by rw [← hw0, ← hB]; simp
      have hB0 : Hid (Below w.heap.size w w0) := by show Below _ _ _; rw [← hw0]; exact (Below.refl _ _).alloc (Nat.le_refl _) _
      have hcells : Hid (∀ (j : Nat) (x : ByteArray), (pcs s)[j]? = some x → w0.cell? ⟨B, j, none⟩ = some (.string x)) := by
        show ∀ (j : Nat) (x : ByteArray), (pcs s)[j]? = some x → w0.cell? ⟨B, j, none⟩ = some (.string x)
        intro j x hx
        rw [← hw0, ← hB, World.cell?_alloc_new]
        simp [hx]
      have HSZ := Lib.hid hsz
      have HBB := Lib.hid hB
      rw [hw0, hB]
      have HPF := Lib.hid (pcs_fields s)
      obtain ⟨C, hC⟩ : ∃ C : Nat, Lib.countB s ⟨#[32]⟩ = C := ⟨_, rfl⟩
      rw [hC] at hcl hcn
      rw [hC]
      obtain ⟨ps, hps⟩ : ∃ ps, pcs s = ps := ⟨_, rfl⟩
      rw [hps] at hcl hcells HPF
      clear hw0 hps hC hsz hB HM
      go_wp2_with fail
      go_loopw [5, 30] (fun v i wr => ∃ k : Nat, k ≤ C + 1 ∧ i = .int .i64 k ∧ wr.ownsRow w0.heap.size 9 1 v ((ps.take k).filter ne).length (((ps.take k).filter ne).map Value.string) ∧ Below w0.heap.size w0 wr) (fun _ i _ => C + 1 - (intOf i).toNat)
      case atStart => exact ⟨0, Nat.zero_le _, rfl, World.ownsRow_nil _ _ _ _, Below.refl _ _⟩
      case round =>
        obtain ⟨k, hk, rfl, hown, hbel⟩ := hrel
        have HO := Lib.hid hown
        have HB := Lib.hid hbel
        by_cases hlt2 : k < C + 1
        · obtain ⟨x, hx⟩ : ∃ x, ps[k]? = some x := ⟨_, List.getElem?_eq_getElem (by rw [hcl]; exact hlt2)⟩
          have t1 : wr.cell? ⟨B, k, none⟩ = some (.string x) := (hbel.cell (p := ⟨B, k, none⟩) (by rw [HSZ.out]; exact Nat.lt_succ_self _)).trans (hcells.out k x hx)
          have htk : ps.take (k + 1) = ps.take k ++ [x] := by
            have hkl := (List.getElem?_eq_some_iff.1 hx).1
            rw [List.take_succ_eq_append_getElem hkl, (List.getElem?_eq_some_iff.1 hx).2]
          have hlen : ((ps.take k).filter ne).length ≤ 600 := by
            have h1 := List.length_filter_le ne (ps.take k)
            rw [List.length_take] at h1; omega
          by_cases hxe : x.data.toList = []
          · have hxl : x.toList = [] := by rw [Lib.toList_data]; exact hxe
            have hne : ne x = false := by unfold ne; rw [hxe]; rfl
            have hf : Hid ((ps.take (k + 1)).filter ne = (ps.take k).filter ne) := by show _ = _; rw [htk, List.filter_append]; simp [hne]
            clear hown hbel hx htk hxe hne
            go_wp2_with fail
            go_roundw
            case rel => exact ⟨k + 1, by omega, by go_num, by rw [hf.out]; exact HO.out, HB.out⟩
            case measure => simp [intOf]; omega
          · have hxl : x.toList.isEmpty = false := by
              rw [Lib.toList_data]
              cases h : x.data.toList with
              | nil => exact absurd h hxe
              | cons a l => rfl
            have hxl2 : (x.toList == []) = false := by
              rw [Lib.toList_data]
              exact beq_eq_false_iff_ne.2 hxe
            have hne : ne x = true := by unfold ne; simpa using hxe
            have hf : Hid ((ps.take (k + 1)).filter ne = (ps.take k).filter ne ++ [x]) := by show _ = _; rw [htk, List.filter_append]; simp [hne]
            have OWA := Lib.hid (hown.alloc (.cells #[.string x] 9))
            have HBA := Lib.hid (hbel.alloc hbel.size (.cells #[.string x] 9))
            clear hown hbel hx htk hxe hne
            go_wp2_with (at_builtin; refine wpList_append_own _ rfl _ _ 27 rfl w0.heap.size 9 i0 (.string ByteArray.empty) 1 16 Tryd.underlying27 hi hz0 hz1 hz2 rfl (by decide) _ _ _ rfl OWA.out ⟨_, 0, none⟩ 1 1 [.string x] rfl rfl (news1 _ _ _ (by simp)) (by simp [Value.oneCell']) (by unfold maxLen; omega) (by omega) (HBA.out.size) ?_; intro v8 w8 own8 gr8 _)
            have OW8 := Lib.hid own8
            have HB8 := Lib.hid (below_row HBA.out gr8 (fun b e => (OWA.out.lt b e).1))
            clear own8 gr8
            go_wp2_with fail
            go_roundw
            case rel => exact ⟨k + 1, by omega, by go_num, by rw [hf.out]; simpa using OW8.out, HB8.out⟩
            case measure => simp [intOf]; omega
        · obtain rfl : k = C + 1 := by omega
          have hta : ps.take (C + 1) = ps := List.take_of_length_le (by rw [hcl]; exact Nat.le_refl _)
          rw [hta] at hown
          have hfl : (ps.filter ne).length = (fields s.data.toList).length := by rw [← HPF.out, List.length_map]
          have hst : (ps.filter ne).map Value.string = strs (fields s.data.toList) := by rw [← HPF.out, strs_of]
          rw [hst, hfl] at hown
          have hown2 := World.ownsRow.mono hown (base' := w.heap.size) (by rw [HSZ.out, HBB.out]; exact Nat.le_succ _)
          have HOF := Lib.hid hown2
          have HBF := Lib.hid (hB0.out.trans (hbel.mono hB0.out.size))
          clear hta hfl hst hcl
          obtain ⟨L, hL⟩ : ∃ L : Nat, (fields s.data.toList).length = L := ⟨_, rfl⟩
          have HL := Lib.hid hL
          by_cases hmany : 24 < L
          · have HR := Lib.hid (sf_no (sf_many (l := s.data.toList) (by rw [hL]; exact hmany)))
            rw [hL] at hown
            have hv := hown.2
            clear hown hown2 hbel hL
            rcases hv with ⟨rfl, h0⟩ | ⟨g, cap, cur, rfl, _, _, _, _, _, _⟩
            · omega
            · go_wp2_with fail
              go_ret2
              exact ⟨.slice none 0 0, by (rw [HR.out.1] <;> rfl), by rw [HR.out.2]; exact World.ownsRow_nil _ _ _ _, HBF.out⟩
          · have HR := Lib.hid (sf_yes (sf_good (l := s.data.toList) (by rw [s_len]; exact hs6) HA.out (by rw [hL]; omega)))
            rw [hL] at hown
            have hv := hown.2
            clear hown hown2 hbel hL
            rcases hv with ⟨rfl, rfl⟩ | ⟨g, cap, cur, rfl, _, _, _, _, _, _⟩
            all_goals
              (go_wp2_with fail
               go_ret2
               exact ⟨_, by (rw [HR.out.1] <;> rfl), by rw [HR.out.2]; exact HOF.out, HBF.out⟩)
end Go.Proofs.YtmpeolnnfblbkaaDoor.sf
