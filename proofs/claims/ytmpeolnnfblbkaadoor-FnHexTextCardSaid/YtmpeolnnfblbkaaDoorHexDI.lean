/- DecodeHex in package impl, walked. -/
import Derived.Test.YtmpeolnnfblbkaaDoorHexD
import Derived.Test.YtmpeolnnfblbkaaDoorBuild
import Derived.Test.YtmpeolnnfblbkaaDoorBuildS
import Derived.Deep.QuietTactic
import Derived.BigQuiet
namespace Go.Proofs.YtmpeolnnfblbkaaDoor.hex
open Go.RowKit base
set_option linter.unusedVariables false

/-- a callee that turns nothing and draws nothing, inside a quiet region -/
theorem qs {P : Program} {f : FuncId} {args : Array Value} {w : World} {n : Nat} {v : Value} (h : Calls P f args (w.drewN n) fun e w' => e = .returned v ∧ w.drewN n = w') :
    Calls P f args (w.drewN n) fun e w'' => e = .returned v ∧ ∃ m, w'' = w.drewN m := Calls.quiet_of_same (h.mono fun _ _ h => ⟨h.1, h.2.symm⟩)

theorem isBuilder_drewN {T e : TypeId} {B b n : Nat} {bs : List Value} {w : World} (h : Lib.IsBuilder T e B b bs w) : Lib.IsBuilder T e B b bs (w.drewN n) := by
  rcases h with ⟨h1, v, h2, h3, h4⟩ | ⟨h1, v, h2, h3, h4⟩
  · exact Or.inl ⟨h1, v, h2, h3, h4⟩
  · exact Or.inr ⟨h1, v, h2, h3, h4⟩
theorem below_drewN {B n : Nat} {w w' : World} (h : Below B w w') : Below B w (w'.drewN n) := ⟨h.os, h.tape, h.output, h.size, h.block⟩

theorem or_fin : ∀ x y : Fin 16, Go.bits .or .i64 ((x.val : Int) * 16) (y.val : Int) % 256 = 16 * (x.val : Int) + (y.val : Int) := by decide +kernel
theorem or_int {x y : Int} (h0 : 0 ≤ x) (h1 : x ≤ 15) (h2 : 0 ≤ y) (h3 : y ≤ 15) : Go.bits .or .i64 (x * 16) y % 256 = 16 * x + y := by
  have := or_fin ⟨x.toNat, by omega⟩ ⟨y.toNat, by omega⟩
  simp only at this
  rw [show ((x.toNat : Nat) : Int) = x by omega, show ((y.toNat : Nat) : Int) = y by omega] at this
  exact this

set_option maxHeartbeats 1000000 in
theorem impl_DecodeHex (s : ByteArray) (hm : s.size ≤ 9223372036854775807) (w : World) : Calls Tryd.prog 24 #[.string s] w (DecE s w) := by
  by_cases hodd : s.size % 2 = 0
  · have hd2 : ((s.size : Int) % 2 != 0) = false := by simp; omega
    by_cases hs : s.size ≤ 40000
    · have hd1 : decide ((s.size : Int) / 2 > 20000) = false := by simp; omega
      have BI : Hid (Lib.IsBuilder 50 5 w.heap.size w.heap.size [] (w.alloc (.cells #[.pointer none, .slice none 0 0] 50))) := Lib.fresh_isBuilder _ _ w
      have B0 : Hid (Below w.heap.size w (w.alloc (.cells #[.pointer none, .slice none 0 0] 50))) := (Below.refl _ _).alloc (Nat.le_refl _) _
      have HODD := Lib.hid hodd
      clear hodd
      go_enter Tryd.func24, Tryd.ntmps24
      go_wp2_with fail
      go_loopw [6] (fun i wr => ∃ j k : Nat, j ≤ s.size ∧ j = 2 * k ∧ i = .int .i64 j ∧ Lib.IsBuilder 50 5 w.heap.size w.heap.size (Lib.byteCells (decAt s k)) wr ∧ (∀ q, q < k → okP s q = true) ∧ Below w.heap.size w wr) (fun i _ => s.size - (intOf i).toNat)
      case atStart => exact ⟨0, 0, Nat.zero_le _, rfl, rfl, by simpa [decAt, Lib.byteCells] using BI.out, fun q hq => absurd hq (by omega), B0.out⟩
      case round =>
        obtain ⟨j, k, hj, hjk, rfl, hown, hgood, hbel⟩ := hrel
        have HO := Lib.hid hown
        have HB := Lib.hid hbel
        have HG := Lib.hid hgood
        have HJ := Lib.hid hjk
        clear hown hbel hgood hjk
        by_cases hlt : j < s.size
        · have hlt2 : j + 1 < s.size := by have := HJ.out; have := HODD.out; omega
          have hpr : Hid (pr s k = (s[j], s[j + 1])) := by
            have e := HJ.out
            subst e
            exact pr_at s k hlt2
          obtain ⟨x, hx⟩ : ∃ x, val s[j] = x := ⟨_, rfl⟩
          have hxb := val_lt s[j]
          obtain ⟨y, hy⟩ : ∃ y, val s[j + 1] = y := ⟨_, rfl⟩
          have hyb := val_lt s[j + 1]
          rw [hx] at hxb
          rw [hy] at hyb
          have HX := Lib.hid hx
          have HY := Lib.hid hy
          clear hx hy
          go_wp2_with fail
          have l1 : (0 : Int) ≤ (j : Int) := by omega
          have l2 : (j : Int) < (s.size : Int) := by omega
          have l3 : IntKind.i64.wrap ((j : Int) + 1) = (j : Int) + 1 := IntWalk.i64_in _ (by omega)
          have l4 : (0 : Int) ≤ (j : Int) + 1 := by omega
          have l5 : (j : Int) + 1 < (s.size : Int) := by omega
          have l6 : ((j : Int) + 1).toNat = j + 1 := by omega
          go_quiet ((go_at_call 38; refine qs (digit _ _)))
          rw [HX.out, HY.out]

          clear l3
          by_cases hx0 : x < 0
          · have hok : Hid (decOk s = false) := decOk_bad (k := k) (by have := HJ.out; omega) (by unfold okP; rw [hpr.out, HX.out, decide_eq_false (by omega), Bool.false_and])
            have hv : Hid (decV s = []) := decV_of hok.out
            go_wp2_with fail
            go_ret2
            exact ⟨by rw [hv.out, hok.out]; rfl, below_drewN HB.out⟩
          · by_cases hy0 : y < 0
            · have hok : Hid (decOk s = false) := decOk_bad (k := k) (by have := HJ.out; omega) (by unfold okP; rw [hpr.out, HY.out]; simp; omega)
              have hv : Hid (decV s = []) := decV_of hok.out
              go_wp2_with fail
              go_ret2
              exact ⟨by rw [hv.out, hok.out]; rfl, below_drewN HB.out⟩
            · go_wp2_with fail
              rw [or_int (by omega) (by omega) (by omega) (by omega)]
              refine (writeByte w.heap.size w.heap.size _ _ _ (isBuilder_drewN HO.out) (by rw [Lib.byteCells_length, decAt_length]; have := HJ.out; omega) HB.out.size).mono ?_
              rintro e w1 ⟨rfl, h1, b1⟩
              have HO1 : Hid (Lib.IsBuilder 50 5 w.heap.size w.heap.size (Lib.byteCells (decAt s (k + 1))) w1) := by
                show Lib.IsBuilder _ _ _ _ _ _
                rw [dec_step s k (x := x) (y := y) (by rw [hpr.out]; exact HX.out) (by rw [hpr.out]; exact HY.out) (by omega) (by omega) (by omega) (by omega)]
                exact Or.inr h1
              have HB1 := Lib.hid ((below_drewN (n := nq) HB.out).trans b1)
              clear h1 b1
              go_wp2_with fail
              go_roundw
              case rel =>
                refine ⟨j + 2, k + 1, by omega, by have := HJ.out; omega, by go_num, HO1.out, fun q hq => ?_, HB1.out⟩
                by_cases hqk : q = k
                · subst hqk
                  unfold okP
                  rw [hpr.out, HX.out, HY.out]
                  simp; omega
                · exact HG.out q (by omega)
              case measure => simp [intOf]; omega
        · have hk : k = s.size / 2 := by have := HJ.out; omega
          have hok : Hid (decOk s = true) := decOk_good HODD.out hs (fun q hq => HG.out q (by omega))
          have hv : Hid (decV s = decAt s k) := by rw [hk]; exact decV_good hok.out
          clear hk
          go_wp2_with fail
          refine (builderString w.heap.size w.heap.size _ _ HO.out HB.out.size).mono ?_
          rintro e w1 ⟨rfl, b1⟩
          have HB1 := Lib.hid (HB.out.trans b1)
          clear b1
          go_wp2_with fail
          go_ret2
          exact ⟨by (rw [hv.out, hok.out] <;> rfl), HB1.out⟩
    · have hd1 : decide ((s.size : Int) / 2 > 20000) = true := by simp; omega
      have hok : Hid (decOk s = false) := decOk_long hs
      have hv : Hid (decV s = []) := decV_of hok.out
      go_enter Tryd.func24, Tryd.ntmps24
      go_wp2_with fail
      go_ret2
      exact ⟨by rw [hv.out, hok.out]; rfl, Below.refl _ _⟩
  · have hd2 : ((s.size : Int) % 2 != 0) = true := by simp; omega
    have hok : Hid (decOk s = false) := decOk_odd hodd
    have hv : Hid (decV s = []) := decV_of hok.out
    clear hodd
    go_enter Tryd.func24, Tryd.ntmps24
    go_wp2_with fail
    go_ret2
    exact ⟨by rw [hv.out, hok.out]; rfl, Below.refl _ _⟩
end Go.Proofs.YtmpeolnnfblbkaaDoor.hex
