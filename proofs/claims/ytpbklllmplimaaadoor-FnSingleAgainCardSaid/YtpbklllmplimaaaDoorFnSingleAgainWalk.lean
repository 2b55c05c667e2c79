/- The law FnSingleAgain, walked: it returns true. -/
import Derived.Test.YtpbklllmplimaaaDoorRows
import Derived.Test.YtpbklllmplimaaaDoorDrawSingle
import Derived.Test.YtpbklllmplimaaaDoorBig
import Derived.Test.YtpbklllmplimaaaDoorPsA
import Derived.Test.YtpbklllmplimaaaDoorPsI
import Derived.Test.YtpbklllmplimaaaDoorSame64
import Derived.Test.YtpbklllmplimaaaDoorSub
import Derived.Test.YtpbklllmplimaaaDoorSignTextI
namespace Go.Proofs.YtpbklllmplimaaaDoor.fnSingleAgain
open Go.RowKit draw base same Fl
set_option linter.unusedVariables false

theorem sm32_nan {a b : Nat} (ha : num S a = false) (hb : num S b = false) : sm32 a b = true := by unfold sm32; rw [ha, hb]; rfl
abbrev Tabw := tab.Tab
theorem fs_nan {x : Nat} {l : List UInt8} (h : Fs x l) (hn : num S x = false) : l = [110, 97, 110] := h.unique (Fs.nan hn)

set_option maxHeartbeats 4000000 in
theorem walk (A : Option Addr) (n c : Nat) (w : World) (hb : Bytes w A n c) (ht : tab.Tab w) :
    Calls Tryd.prog 4 #[.slice A n c] w fun e w' => e = .returned (.bool true) ∧ Below w.heap.size w w' := by
  have HB := Lib.hid hb
  have HT := Lib.hid ht
  clear hb ht
  by_cases hbig : (n : Int) > 1048576
  · have hd : decide ((n : Int) > 1048576) = true := by simpa using hbig
    go_enter Tryd.func4, Tryd.ntmps4
    go_wp2_with fail
    refine (big A n c _).mono ?_
    rintro e w1 ⟨rfl, rfl⟩
    go_wp2_with fail
    go_ret
    exact ⟨rfl, Below.refl _ _⟩
  · have hd : decide ((n : Int) > 1048576) = false := by simpa using hbig
    go_enter Tryd.func4, Tryd.ntmps4
    go_wp2_with fail
    refine (big A n c _).mono ?_
    rintro e w1 ⟨rfl, rfl⟩
    go_wp2_with fail
    refine (drawSingle w A n c HB.out).mono ?_
    rintro e w1 ⟨x, rfl, hx, b1⟩
    have B1 := Lib.hid b1
    have HX := Lib.hid hx
    have T1 := Lib.hid (HT.out.below (Nat.le_refl _) b1)
    clear b1 hbig hd hx
    go_wp2_with fail
    refine (impl_FormatSingle x HX.out _ T1.out).mono ?_
    rintro e w2 ⟨l, hfs, rfl, b2⟩
    have B2 := Lib.hid (B1.out.trans (b2.mono B1.out.size))
    have T2 := Lib.hid (T1.out.below (Nat.le_refl _) b2)
    have HFS := Lib.hid hfs
    have hll := fs_len hfs
    obtain ⟨SS, hSS⟩ : ∃ SS : ByteArray, (⟨l.toArray⟩ : ByteArray) = SS := ⟨_, rfl⟩
    have hsz : SS.size ≤ 140737488351232 := by rw [← hSS, size_mk]; omega
    have HSZ := Lib.hid hsz
    have HSS := Lib.hid hSS
    rw [hSS]
    clear b2 hfs hll hsz hSS
    go_wp2_with fail
    refine (impl_ParseSingle SS HSZ.out _ T2.out).mono ?_
    rintro e w3 ⟨v, b, hps, rfl, b3⟩
    have B3 := Lib.hid (B2.out.trans (b3.mono B2.out.size))
    have T3 := Lib.hid (T2.out.below (Nat.le_refl _) b3)
    clear b3
    rcases ps_again HX.out HFS.out with ⟨hn, hl⟩ | ⟨hn, hp, r, hl⟩
    · have hd3 : SS.data.toList = [110, 97, 110] := by rw [← HSS.out, data_mk, hl]
      obtain ⟨rfl, hv, hvl⟩ : b = true ∧ num S v = false ∧ v < 2 ^ 32 := by
        cases hps with
        | nan h v hv hl => exact ⟨rfl, hv, hl⟩
        | short h => exact absurd hd3 h
        | inf h => exact absurd hd3 h
        | zero h => exact absurd hd3 h
        | core h => exact absurd hd3 h
      have HV := Lib.hid hv
      have HVL := Lib.hid hvl
      have HL := Lib.hid hl
      have ho := ordNanL hn x
      have HSM := Lib.hid (sm32_nan hn hv)
      have HCF : Hid (∀ w', Tabw w' → Calls Tryd.prog 12 #[.float .f32 v] w' fun e w'' => e = .returned (.string SS) ∧ Below w'.heap.size w' w'') := fun w' ht =>
        (impl_FormatSingle v hvl w' ht).mono fun e w'' ⟨l', hfs', he, hb⟩ => by
          have hl' := fs_nan hfs' hv
          rw [← hl] at hl'
          subst hl'
          rw [HSS.out] at he
          exact ⟨he, hb⟩
      have hne : ((none : Option Ordering) != some Ordering.eq) = true := rfl
      clear hps hv hvl hl hd3 hn
      go_wp2_with fail
      refine wp_sub (by kernel_rfl) (by kernel_rfl) ?_
      repeat (go_big_quiet_step ((first
        | (refine sub_call ((same32 x v _).mono fun e w' h => ⟨by rw [h.1, HSM.out], h.2⟩))
        | (refine sub_call (HCF.out _ (T3.out.below (Nat.le_refl _) (Subtype.property _))))
        | (refine sub_same (impl_SignText x _)))))
      refine wpQuiet_nil ?_
      rintro _ ⟨⟨w5, b5⟩, rfl⟩
      have B5 := Lib.hid (B3.out.trans (b5.mono B3.out.size))
      clear b5
      go_wp2_with fail
      go_ret
      exact ⟨rfl, B5.out⟩
    · rw [HSS.out] at hp
      obtain ⟨rfl, hv⟩ := hp.unique hps
      obtain rfl : x = v := by
        rcases hv with h | ⟨h, _⟩
        · exact h
        · rw [hn] at h; cases h
      have ho := ordSelf hn
      have hex : SS.extract 0 1 = ⟨#[sgc x]⟩ := by rw [← HSS.out, hl]; exact sg1_mk _ _
      have hs1 : 1 ≤ SS.size := by rw [← HSS.out, size_mk, hl]; simp
      have HTX := Lib.hid (tx_sgc hn)
      have HCF : Hid (∀ w', Tabw w' → Calls Tryd.prog 12 #[.float .f32 x] w' fun e w'' => e = .returned (.string SS) ∧ Below w'.heap.size w' w'') := fun w' ht =>
        (impl_FormatSingle x HX.out w' ht).mono fun e w'' ⟨l', hfs', he, hb⟩ => by
          obtain rfl := HFS.out.unique hfs'
          rw [HSS.out] at he
          exact ⟨he, hb⟩
      clear hps hv hl hn hp
      go_wp2_with fail
      refine wp_sub (by kernel_rfl) (by kernel_rfl) ?_
      repeat (go_big_quiet_step ((first
        | (refine sub_call ((same32 x x _).mono fun e w' h => ⟨by rw [h.1, sm32_refl], h.2⟩))
        | (refine sub_call (HCF.out _ (T3.out.below (Nat.le_refl _) (Subtype.property _))))
        | (refine sub_same ((impl_SignText x _).mono fun e w' h => ⟨by rw [h.1, HTX.out], h.2⟩)))))
      refine wpQuiet_nil ?_
      rintro _ ⟨⟨w5, b5⟩, rfl⟩
      have B5 := Lib.hid (B3.out.trans (b5.mono B3.out.size))
      clear b5
      go_wp2_with fail
      go_ret
      exact ⟨rfl, B5.out⟩
end Go.Proofs.YtpbklllmplimaaaDoor.fnSingleAgain
