/- strings.Cut at a separator of one byte. -/
import Derived.Shelf.Strings.Search1
import Derived.Test.YtpbklllmplimaaaDoorBase
import Derived.RegionTactic
import Derived.Lib.CutLaws
namespace Go.Proofs.YtpbklllmplimaaaDoor.base
open Go.Shelf
set_option linter.unusedVariables false

def lays217_ren : Go.Shelf.Ren := ⟨fun | 217 => 65 | 266 => 76 | n => n, fun | 9 => 9 | 5 => 5 | 3 => 3 | n => n, fun | n => n⟩
theorem lays217 : Go.Proofs.Lays.n217 Tryd.prog lays217_ren := {
  mixed := by kernel_rfl
  f217 := Tryd.func65.trans (congrArg some (by kernel_rfl))
  f266 := Tryd.func76.trans (congrArg some (by kernel_rfl))
  t3 := Tryd.underlying3
  a3 := Tryd.isAgg3
  z3 := Tryd.sizeOf3
  v3 := Tryd.zeroValue3
  t5 := Tryd.underlying5
  a5 := Tryd.isAgg5
  z5 := Tryd.sizeOf5
  v5 := Tryd.zeroValue5
  t9 := Tryd.underlying9
  a9 := Tryd.isAgg9
  z9 := Tryd.sizeOf9
  v9 := Tryd.zeroValue9 }
open Go.RowKit
theorem indexByte_c (s : ByteArray) (c : Int) (w : World) :
    Calls Tryd.prog 65 #[.string s, .int .u8 c] w fun e w' => e = .returned (.int .i64 (Lib.indexByte s.data.toList c.toNat.toUInt8)) ∧ w' = w := Any.stringslite_IndexByte lays217 s c w

theorem indexByte_miss (l : List UInt8) (c : UInt8) (h : ∀ b ∈ l, b ≠ c) : Lib.indexByte l c = -1 := by
  induction l with
  | nil => rfl
  | cons b l ih =>
    unfold Lib.indexByte
    rw [if_neg (by simpa using h b (List.mem_cons_self ..)), ih (fun x hx => h x (List.mem_cons_of_mem _ hx))]
    rfl
theorem indexByte_hit (l : List UInt8) (c : UInt8) (i : Nat) (h : l[i]? = some c) (hb : ∀ j, j < i → l[j]? ≠ some c) : Lib.indexByte l c = i := by
  induction l generalizing i with
  | nil => simp at h
  | cons b l ih =>
    unfold Lib.indexByte
    cases i with
    | zero =>
      simp at h
      subst h
      simp
    | succ i =>
      have h0 := hb 0 (by omega)
      simp at h0
      rw [if_neg (by simpa using h0), ih i (by simpa using h) (fun j hj => by have := hb (j + 1) (by omega); simpa using this)]
      rw [if_neg (by simp)]
      omega

theorem index_one (s : ByteArray) (c : UInt8) (w : World) : Calls Tryd.prog 58 #[.string s, .string ⟨#[c]⟩] w fun e w' => e = .returned (.int .i64 (Lib.indexByte s.data.toList c)) ∧ w = w' := by
  have hsz : (⟨#[c]⟩ : ByteArray).size = 1 := rfl
  cases hq : ([c] == s.toList) with
  | true =>
    have H : Hid (Lib.indexByte s.data.toList c = 0) := by
      show _ = _
      have : [c] = s.data.toList := by rw [← Lib.toList_data]; simpa using hq
      rw [← this]; simp [Lib.indexByte]
    go_enter Tryd.func58, Tryd.ntmps58
    go_wp2_with fail
    go_ret
    exact ⟨by rw [H.out]; rfl, rfl⟩
  | false =>
    go_enter Tryd.func58, Tryd.ntmps58
    go_wp2_with fail
    refine (indexByte_c s _ _).mono ?_
    rintro e w1 ⟨rfl, rfl⟩
    go_wp2_with fail
    go_ret
    exact ⟨rfl, rfl⟩

/-- what Cut tells: the text before, the text behind, was it found; and some draws -/
def CutE (a b : ByteArray) (f : Bool) (w : World) (e : Ending) (w' : World) : Prop := e = .returned (.tuple #[.string a, .string b, .bool f]) ∧ ∃ n, w' = w.drewN n

theorem cut_miss0 (s : ByteArray) (c : UInt8) (h : ∀ b ∈ s.data.toList, b ≠ c) (w : World) : Calls Tryd.prog 44 #[.string s, .string ⟨#[c]⟩] w (CutE s ⟨#[]⟩ false w) := by
  have HI := Lib.hid (indexByte_miss _ c h)
  clear h
  go_enter Tryd.func44, Tryd.ntmps44
  go_wp2_with fail
  refine (index_one s c _).mono ?_
  rintro e w1 ⟨rfl, rfl⟩
  rw [HI.out]
  go_wp2_with fail
  go_ret3
  exact ⟨rfl, 0, rfl⟩
set_option maxHeartbeats 1000000 in
theorem cut_hit0 (s : ByteArray) (c : UInt8) (i : Nat) (hm : s.size ≤ 9223372036854775807) (h : s.data.toList[i]? = some c) (hb : ∀ j, j < i → s.data.toList[j]? ≠ some c) (w : World) :
    Calls Tryd.prog 44 #[.string s, .string ⟨#[c]⟩] w (CutE (s.extract 0 i) (s.extract (i + 1) s.size) true w) := by
  have HI := Lib.hid (indexByte_hit _ c i h hb)
  have hlt : i < s.size := by
    have := (List.getElem?_eq_some_iff.1 h).1
    simpa using this
  have hsz : (⟨#[c]⟩ : ByteArray).size = 1 := rfl
  clear h hb
  have c1 : (0 : Int) ≤ ↑i := by omega
  have c2 : (↑i : Int) ≤ ↑s.size := by omega
  have c3 : (0 : Int) ≤ ↑i + 1 := by omega
  have c4 : (↑i + 1 : Int) ≤ ↑s.size := by omega
  go_enter Tryd.func44, Tryd.ntmps44
  go_wp2_with fail
  refine (index_one s c _).mono ?_
  rintro e w1 ⟨rfl, rfl⟩
  rw [HI.out]
  go_wp2_with fail
  go_region
  go_wp2_with fail
  go_ret3
  exact ⟨rfl, 1, rfl⟩

theorem cut_miss (s : ByteArray) (c : UInt8) (h : ∀ b ∈ s.data.toList, b ≠ c) (w : World) : Calls Tryd.prog 25 #[.string s, .string ⟨#[c]⟩] w (CutE s ⟨#[]⟩ false w) := by
  have H := Lib.hid h
  clear h
  go_enter Tryd.func25, Tryd.ntmps25
  go_wp2_with fail
  refine (cut_miss0 s c H.out _).mono ?_
  rintro e w1 ⟨rfl, n, rfl⟩
  go_wp2_with fail
  go_ret3
  exact ⟨rfl, n, rfl⟩
theorem cut_hit (s : ByteArray) (c : UInt8) (i : Nat) (hm : s.size ≤ 9223372036854775807) (h : s.data.toList[i]? = some c) (hb : ∀ j, j < i → s.data.toList[j]? ≠ some c) (w : World) :
    Calls Tryd.prog 25 #[.string s, .string ⟨#[c]⟩] w (CutE (s.extract 0 i) (s.extract (i + 1) s.size) true w) := by
  have H := Lib.hid h
  have HB := Lib.hid hb
  clear h hb
  go_enter Tryd.func25, Tryd.ntmps25
  go_wp2_with fail
  refine (cut_hit0 s c i hm H.out HB.out _).mono ?_
  rintro e w1 ⟨rfl, n, rfl⟩
  go_wp2_with fail
  go_ret3
  exact ⟨rfl, n, rfl⟩
end Go.Proofs.YtpbklllmplimaaaDoor.base
