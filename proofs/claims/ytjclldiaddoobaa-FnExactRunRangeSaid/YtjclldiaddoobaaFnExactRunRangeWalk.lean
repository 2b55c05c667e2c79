/- The law FnExactRunRange, walked: it returns true. -/
import Derived.Test.YtjclldiaddoobaaRows
import Derived.Test.YtjclldiaddoobaaRunL
import Derived.Test.YtjclldiaddoobaaRngRow
import Derived.Test.YtjclldiaddoobaaFloEq
import Derived.Test.YtjclldiaddoobaaMarkF
namespace Go.Proofs.Ytjclldiaddoobaa.fnExactRunRange
open Go.RowKit base Fl same rng draw
set_option linter.unusedVariables false

theorem row_cells {w : World} {g n k : Nat} {F D U : Nat → Nat} (h : Row w g n k F D U) : ∀ j, j < n * 3 → ∃ x, w.cell? ⟨g, j, none⟩ = some x := by
  intro j hj
  obtain ⟨x, y, z, hx, hy, hz⟩ := h.2.2.1 (j / 3) (by omega)
  have h3 := Nat.div_add_mod j 3
  have h4 := Nat.mod_lt j (show 0 < 3 by omega)
  rcases (show j = j / 3 * 3 ∨ j = j / 3 * 3 + 1 ∨ j = j / 3 * 3 + 2 by omega) with e | e | e
  · exact ⟨x, by rw [e]; exact hx⟩
  · exact ⟨y, by rw [e]; exact hy⟩
  · exact ⟨z, by rw [e]; exact hz⟩
theorem grown_cells {w w' : World} {g b n : Nat} (h : ∀ j, j < n → ∃ x, w.cell? ⟨b, j, none⟩ = some x) (k : w.grownBy w' (some g)) (hb : b < w.heap.size) (hne : b ≠ g) : ∀ j, j < n → ∃ x, w'.cell? ⟨b, j, none⟩ = some x := by
  intro j hj
  obtain ⟨x, hx⟩ := h j hj
  exact ⟨x, (World.cell?_of_block (k.block b hb (by simp [hne]))).trans hx⟩
theorem below_cells {w w' : World} {b n : Nat} (h : ∀ j, j < n → ∃ x, w.cell? ⟨b, j, none⟩ = some x) (k : Below w.heap.size w w') (hb : b < w.heap.size) : ∀ j, j < n → ∃ x, w'.cell? ⟨b, j, none⟩ = some x := by
  intro j hj
  obtain ⟨x, hx⟩ := h j hj
  exact ⟨x, (k.cell (p := ⟨b, j, none⟩) hb).trans hx⟩
theorem own_lt {w : World} {B : Nat} {A : Option Addr} (h : Own w B A) : ∀ b off, A = some ⟨b, off, none⟩ → B ≤ b ∧ b < w.heap.size := by
  rintro b off rfl
  rcases h.at_ with e | ⟨b', e, h1, h2, _⟩
  · cases e
  · cases e; exact ⟨h1, h2⟩
theorem own_nil {w : World} {B n c : Nat} {A : Option Addr} {X : Nat → Int} (h : Ns w A n c X) : A = none → n = 0 := by
  rintro rfl
  rcases Nat.eq_zero_or_pos n with h0 | h0
  · exact h0
  · obtain ⟨b, off, e, _⟩ := h.2.2 h0; cases e
/-- what a run gives, opened -/
theorem run_ns {n m : Nat} {F D U X : Nat → Nat} {a : Int} {w : World} {e : Ending} {w' : World} (h : RunE n m F D U X a w e w') :
    ∃ (A : Option Addr) (cap : Nat) (L : List Int), e = .returned (.slice A L.length cap) ∧ L.length ≤ 100 ∧ Ns w' A L.length cap (fun j => L.getD j 0) ∧ Own w' w.heap.size A ∧ Below w.heap.size w w' ∧
      ((okAt n F D U a && decide (m ≤ 100)) = true → L.length = m ∧ Chain n F D U X a L) ∧ ((okAt n F D U a && decide (m ≤ 100)) = false → L = []) := by
  obtain ⟨v, L, rfl, ov, h1, h2, b⟩ := h
  obtain ⟨A, cap, rfl, nv, own⟩ := own_ns ov
  refine ⟨A, cap, L, rfl, ?_, nv, own, b, h1, h2⟩
  cases hc : (okAt n F D U a && decide (m ≤ 100)) with
  | true =>
    rw [(h1 hc).1]
    exact of_decide_eq_true (Bool.and_eq_true_iff.1 hc).2
  | false => rw [h2 hc]; simp
theorem run_eq {n m : Nat} {F D U X : Nat → Nat} {a : Int} {L M : List Int}
    (h1 : (okAt n F D U a && decide (m ≤ 100)) = true → L.length = m ∧ Chain n F D U X a L) (h2 : (okAt n F D U a && decide (m ≤ 100)) = false → L = [])
    (h3 : (okAt n F D U a && decide (m ≤ 100)) = true → M.length = m ∧ Chain n F D U X a M) (h4 : (okAt n F D U a && decide (m ≤ 100)) = false → M = []) : L = M := by
  cases hc : (okAt n F D U a && decide (m ≤ 100)) with
  | true => exact (h1 hc).2.unique (h3 hc).2 ((h1 hc).1.trans (h3 hc).1.symm)
  | false => rw [h2 hc, h4 hc]

set_option maxHeartbeats 4000000 in
theorem walk (A : Option Addr) (n c : Nat) (F D U : Nat → Nat) (a1 : Int) (q1 : (Lit.int .i64 a1).wf = true) (B : Option Addr) (m c' : Nat) (X : Nat → Nat) (w : World) (h : Rs w A n c F D U) (hX : Fs w B m c' X) :
    Calls Try.prog 10 #[.slice A n c, .int .i64 a1, .slice B m c'] w fun e w' => e = .returned (.bool true) ∧ Below w.heap.size w w' := by
  have hn : n ≤ 9223372036854775807 := Nat.le_trans h.1 h.2.1
  have hmm : m ≤ 9223372036854775807 := Nat.le_trans hX.1 hX.2.1
  clear q1
  by_cases hbig : (m : Int) > 1048576
  · have hd : decide ((m : Int) > 1048576) = true := by simpa using hbig
    go_enter Try.func10, Try.ntmps10
    go_wp2_with fail
    go_ret
    exact ⟨rfl, Below.refl _ _⟩
  have hd : decide ((m : Int) > 1048576) = false := by simpa using hbig
  have HM : Hid (m ≤ 1048576) := by show _ ≤ _; omega
  clear hbig
  have HR := Lib.hid h
  have HX := Lib.hid hX
  clear h hX
  by_cases hsz : (n : Int) ≤ 1048576
  · have HN : Hid (n ≤ 1048576) := by show _ ≤ _; omega
    go_enter Try.func10, Try.ntmps10
    go_wp2_with fail
    refine (szRangeS A n c hn _).mono ?_
    rintro e w0 ⟨rfl, rfl⟩
    rw [if_pos hsz]
    clear hd
    go_wp2_with fail
    refine (toRangeS A n c F D U _ HR.out HN.out).mono ?_
    rintro e wa ⟨ga, rfl, ra, ba, la, la'⟩
    have RA := Lib.hid ra; have BA := Lib.hid ba
    clear ra ba la la'
    go_wp2_with fail
    refine (toFloat32S B m c' X _ (HX.out.below BA.out) HM.out).mono ?_
    rintro e wb ⟨gb, rfl, rb, -, bb, lb, lb'⟩
    have RB := Lib.hid rb; have BB := Lib.hid (BA.out.trans (bb.mono BA.out.size)); have RA := Lib.hid (RA.out.below bb)
    clear rb bb lb lb'
    go_wp2_with fail
    refine (spec_RunRange _ _ n n m m F D U X a1 _ RA.out RB.out).mono ?_
    intro e wc hrun
    obtain ⟨AV, cv, L, rfl, hL, nv, ov, bc, c1, c2⟩ := run_ns hrun
    have NV := Lib.hid nv; have OV := Lib.hid ov; have BC := Lib.hid (BB.out.trans (bc.mono BB.out.size)); have C1 := Lib.hid c1; have C2 := Lib.hid c2
    clear hrun nv ov bc c1 c2 RA RB
    go_wp2_with fail
    refine (toRangeR A n c F D U _ (HR.out.below BC.out) HN.out).mono ?_
    rintro e wd ⟨gx, rfl, rx, rowx, bd, lx, lx'⟩
    have RX := Lib.hid rx; have ROWX := Lib.hid rowx; have BD := Lib.hid (BC.out.trans (bd.mono BC.out.size)); have NV := Lib.hid (NV.out.below bd)
    have hx0 : w.heap.size ≤ gx := Nat.le_trans BC.out.size lx
    have AP := Lib.hid (fun b off e => Nat.lt_of_lt_of_le (own_lt OV.out b off e).2 lx)
    clear rx rowx bd
    go_wp2_with fail
    refine (toFloat32S B m c' X _ (HX.out.below BD.out) HM.out).mono ?_
    rintro e we ⟨gy, rfl, ry, rowy, be, ly, ly'⟩
    have RY := Lib.hid ry; have ROWY := Lib.hid rowy; have BE := Lib.hid (BD.out.trans (be.mono BD.out.size)); have NV := Lib.hid (NV.out.below be)
    have RX := Lib.hid (RX.out.below be)
    have XF := Lib.hid (fun o => (be.frozen (p := ⟨gx, o, none⟩) lx').trans (ROWX.out.2.1 o))
    have XC := Lib.hid (below_cells (row_cells ROWX.out) be lx')
    have hsz1 := be.size
    clear ry rowy be ROWX
    go_wp2_with fail
    refine (impl_RunRange _ _ n n m m F D U X a1 _ RX.out RY.out).mono ?_
    intro e wf hrun
    obtain ⟨AG, cg, M, rfl, hM, ng, og, bf, c3, c4⟩ := run_ns hrun
    obtain rfl := run_eq C1.out C2.out c3 c4
    have NG := Lib.hid ng; have OG := Lib.hid og; have BF := Lib.hid (BE.out.trans (bf.mono BE.out.size)); have NV := Lib.hid (NV.out.below bf)
    have RX := Lib.hid (RX.out.below bf); have RY := Lib.hid (RY.out.below bf)
    have XF := Lib.hid (fun o => (bf.frozen (p := ⟨gx, o, none⟩) (Nat.lt_of_lt_of_le lx' hsz1)).trans (XF.out o))
    have XC := Lib.hid (below_cells XC.out bf (Nat.lt_of_lt_of_le lx' hsz1))
    have YF := Lib.hid (fun o => (bf.frozen (p := ⟨gy, o, none⟩) ly').trans (ROWY.out.2.1 o))
    have YC := Lib.hid (below_cells ROWY.out.2.2.1 bf ly')
    have AG1 := Lib.hid (own_lt OG.out)
    have hsz2 := bf.size
    have hgx : gx < wf.heap.size := by omega
    have hgy : gy < wf.heap.size := by omega
    have hxy : gx < gy := by omega
    have AP2 := Lib.hid (fun b off e => show gy < b from Nat.lt_of_lt_of_le ly' (AG1.out b off e).1)
    clear hrun ng og bf c3 c4 ROWY
    go_wp2_with fail
    refine (eqIntS _ _ _ _ _ _ _ NG.out NV.out (by omega)).mono ?_
    rintro e wg ⟨rfl, bg⟩
    have BG := Lib.hid (BF.out.trans (bg.mono BF.out.size)); have NV := Lib.hid (NV.out.below bg); have NG := Lib.hid (NG.out.below bg); have OG := Lib.hid (OG.out.below bg)
    have RX := Lib.hid (RX.out.below bg); have RY := Lib.hid (RY.out.below bg)
    have XF := Lib.hid (fun o => (bg.frozen (p := ⟨gx, o, none⟩) hgx).trans (XF.out o))
    have XC := Lib.hid (below_cells XC.out bg hgx)
    have YF := Lib.hid (fun o => (bg.frozen (p := ⟨gy, o, none⟩) hgy).trans (YF.out o))
    have YC := Lib.hid (below_cells YC.out bg hgy)
    have hsz3 := bg.size
    have hgx : gx < wg.heap.size := by omega
    have hgy : gy < wg.heap.size := by omega
    clear bg
    go_wp2_with fail
    refine (toRangeS A n c F D U _ (HR.out.below BG.out) HN.out).mono ?_
    rintro e wh ⟨gh, rfl, rh, bh, lh, lh'⟩
    have RH := Lib.hid rh
    have BH := Lib.hid (BG.out.trans (bh.mono BG.out.size)); have NV := Lib.hid (NV.out.below bh); have NG := Lib.hid (NG.out.below bh); have OG := Lib.hid (OG.out.below bh)
    have RX := Lib.hid (RX.out.below bh); have RY := Lib.hid (RY.out.below bh)
    have XF := Lib.hid (fun o => (bh.frozen (p := ⟨gx, o, none⟩) hgx).trans (XF.out o))
    have XC := Lib.hid (below_cells XC.out bh hgx)
    have YF := Lib.hid (fun o => (bh.frozen (p := ⟨gy, o, none⟩) hgy).trans (YF.out o))
    have YC := Lib.hid (below_cells YC.out bh hgy)
    have hsz4 := bh.size
    have hgx : gx < wh.heap.size := by omega
    have hgy : gy < wh.heap.size := by omega
    clear bh rh lh lh'
    go_wp2_with fail
    refine (eqRangeS _ _ n n n F D U _ RX.out RH.out HN.out).mono ?_
    rintro e wi ⟨rfl, bi⟩
    have BI := Lib.hid (BH.out.trans (bi.mono BH.out.size)); have NV := Lib.hid (NV.out.below bi); have NG := Lib.hid (NG.out.below bi); have OG := Lib.hid (OG.out.below bi)
    have RY := Lib.hid (RY.out.below bi)
    have XF := Lib.hid (fun o => (bi.frozen (p := ⟨gx, o, none⟩) hgx).trans (XF.out o))
    have XC := Lib.hid (below_cells XC.out bi hgx)
    have YF := Lib.hid (fun o => (bi.frozen (p := ⟨gy, o, none⟩) hgy).trans (YF.out o))
    have YC := Lib.hid (below_cells YC.out bi hgy)
    have hsz5 := bi.size
    have hgx : gx < wi.heap.size := by omega
    have hgy : gy < wi.heap.size := by omega
    clear bi RX RH
    go_wp2_with fail
    refine (toFloat32S B m c' X _ (HX.out.below BI.out) HM.out).mono ?_
    rintro e wj ⟨gj, rfl, rj, -, bj, lj, lj'⟩
    have RJ := Lib.hid rj
    have BJ := Lib.hid (BI.out.trans (bj.mono BI.out.size)); have NV := Lib.hid (NV.out.below bj); have NG := Lib.hid (NG.out.below bj); have OG := Lib.hid (OG.out.below bj)
    have RY := Lib.hid (RY.out.below bj)
    have XF := Lib.hid (fun o => (bj.frozen (p := ⟨gx, o, none⟩) hgx).trans (XF.out o))
    have XC := Lib.hid (below_cells XC.out bj hgx)
    have YF := Lib.hid (fun o => (bj.frozen (p := ⟨gy, o, none⟩) hgy).trans (YF.out o))
    have YC := Lib.hid (below_cells YC.out bj hgy)
    have hsz6 := bj.size
    have hgx : gx < wj.heap.size := by omega
    have hgy : gy < wj.heap.size := by omega
    clear bj rj lj lj'
    go_wp2_with fail
    refine (eqFloat32S _ _ m m m X _ RY.out RJ.out HM.out).mono ?_
    rintro e wk ⟨rfl, bk⟩
    have BK := Lib.hid (BJ.out.trans (bk.mono BJ.out.size)); have NV := Lib.hid (NV.out.below bk); have NG := Lib.hid (NG.out.below bk); have OG := Lib.hid (OG.out.below bk)
    have XF := Lib.hid (fun o => (bk.frozen (p := ⟨gx, o, none⟩) hgx).trans (XF.out o))
    have XC := Lib.hid (below_cells XC.out bk hgx)
    have YF := Lib.hid (fun o => (bk.frozen (p := ⟨gy, o, none⟩) hgy).trans (YF.out o))
    have YC := Lib.hid (below_cells YC.out bk hgy)
    have hsz7 := bk.size
    have hgx : gx < wk.heap.size := by omega
    have hgy : gy < wk.heap.size := by omega
    clear bk RY RJ
    have hn2 : n ≤ 1048576 := HN.out
    have hm2 : m ≤ 1048576 := HM.out
    clear hsz1 hsz2 hsz3 hsz4 hsz5 hsz6 hsz7
    go_wp2_with fail
    refine (markRangeS gx n n _ XF.out XC.out (Nat.le_refl _) hn hn2).mono ?_
    rintro e wl ⟨rfl, gl⟩
    have BL := Lib.hid (below_of_grown BK.out gl hx0)
    have NV := Lib.hid (NV.out.grown gl (fun b off e => Nat.ne_of_lt (AP.out b off e)))
    have NG := Lib.hid (NG.out.grown gl (fun b off e => Nat.ne_of_gt (Nat.lt_trans hxy (AP2.out b off e))))
    have OG := Lib.hid (OG.out.grown gl (Nat.lt_of_lt_of_le (Nat.lt_trans hxy ly') (Nat.le_refl _)))
    have YF := Lib.hid (fun o => (frozen_of_block (gl.block gy hgy (by simp; omega))).trans (YF.out o))
    have YC := Lib.hid (grown_cells YC.out gl hgy (Nat.ne_of_gt hxy))
    have hsz8 := gl.size
    have hgy : gy < wl.heap.size := by omega
    clear gl XF XC hsz8
    go_wp2_with fail
    refine (markFloat32S gy m m (1 + 3 * n) (by omega) (by omega) _ YF.out YC.out (Nat.le_refl _) hmm hm2).mono ?_
    rintro e wm ⟨rfl, gm⟩
    have BM := Lib.hid (below_of_grown BL.out gm (by omega))
    have NV := Lib.hid (NV.out.grown gm (fun b off e => Nat.ne_of_lt (Nat.lt_trans (AP.out b off e) hxy)))
    have NG := Lib.hid (NG.out.grown gm (fun b off e => Nat.ne_of_gt (AP2.out b off e)))
    have OG := Lib.hid (OG.out.grown gm ly')
    clear gm YF YC
    have hd1 : decide ((1 : Int) + 3 * (n : Int) + (m : Int) < 0) = false := by simp; omega
    go_wp2_with fail
    refine (eqIntS _ _ _ _ _ _ _ NG.out NV.out (by omega)).mono ?_
    rintro e wn ⟨rfl, bn⟩
    have BN := Lib.hid (BM.out.trans (bn.mono BM.out.size)); have NV := Lib.hid (NV.out.below bn); have NG := Lib.hid (NG.out.below bn); have OG := Lib.hid (OG.out.below bn)
    clear bn hd1
    go_wp2_with fail
    refine (markAny _ _ _ _ _ _ NG.out OG.out (by omega) (own_nil (B := 0) NG.out)).mono ?_
    rintro e wo ⟨rfl, no, ho⟩
    have NG := Lib.hid no
    have NVO : Hid (Below w.heap.size w wo ∧ Ns wo AV L.length cv (fun j => L.getD j 0)) := by
      rcases ho with rfl | ⟨b, eb, gr⟩
      · exact ⟨BN.out, NV.out⟩
      · refine ⟨below_of_grown BN.out gr ?_, NV.out.grown gr (fun b' off e => ?_)⟩
        · have := AP2.out b 0 eb; omega
        · have h1 := AP2.out b 0 eb; have h2 := AP.out b' off e; omega
    have BO := Lib.hid NVO.out.1
    have NV := Lib.hid NVO.out.2
    clear ho no NVO OG
    go_wp2_with fail
    refine (heldIntS _ _ _ _ NG.out (by omega)).mono ?_
    rintro e wp ⟨rfl, rfl⟩
    go_wp2_with fail
    refine (toRangeS A n c F D U _ (HR.out.below BO.out) HN.out).mono ?_
    rintro e wp ⟨gp, rfl, rp, bp, lp, lp'⟩
    have RP := Lib.hid rp; have BP := Lib.hid (BO.out.trans (bp.mono BO.out.size)); have NV := Lib.hid (NV.out.below bp); have NG := Lib.hid (NG.out.below bp)
    clear rp bp lp lp'
    go_wp2_with fail
    refine (toFloat32S B m c' X _ (HX.out.below BP.out) HM.out).mono ?_
    rintro e wq ⟨gq, rfl, rq, -, bq, lq, lq'⟩
    have RQ := Lib.hid rq; have RP := Lib.hid (RP.out.below bq)
    have BQ := Lib.hid (BP.out.trans (bq.mono BP.out.size)); have NV := Lib.hid (NV.out.below bq); have NG := Lib.hid (NG.out.below bq)
    clear rq bq lq lq'
    go_wp2_with fail
    refine (impl_RunRange _ _ n n m m F D U X a1 _ RP.out RQ.out).mono ?_
    intro e wr hrun
    obtain ⟨AH, ch, M, rfl, hM, nh, oh, br, c3, c4⟩ := run_ns hrun
    obtain rfl := run_eq C1.out C2.out c3 c4
    have NH := Lib.hid nh; have BR := Lib.hid (BQ.out.trans (br.mono BQ.out.size)); have NV := Lib.hid (NV.out.below br); have NG := Lib.hid (NG.out.below br)
    clear hrun nh oh br c3 c4
    go_wp2_with fail
    refine (eqIntS _ _ _ _ _ _ _ NH.out NV.out (by omega)).mono ?_
    rintro e ws ⟨rfl, bs⟩
    have BS := Lib.hid (BR.out.trans (bs.mono BR.out.size)); have NG := Lib.hid (NG.out.below bs)
    clear bs
    go_wp2_with fail
    refine (heldIntS _ _ _ _ NG.out (by omega)).mono ?_
    rintro e wp ⟨rfl, rfl⟩
    go_wp2_with fail
    go_ret
    exact ⟨rfl, BS.out⟩
  · go_enter Try.func10, Try.ntmps10
    go_wp2_with fail
    refine (szRangeS A n c hn _).mono ?_
    rintro e w0 ⟨rfl, rfl⟩
    rw [if_neg (by omega)]
    go_wp2_with fail
    go_ret
    exact ⟨rfl, Below.refl _ _⟩
end Go.Proofs.Ytjclldiaddoobaa.fnExactRunRange
