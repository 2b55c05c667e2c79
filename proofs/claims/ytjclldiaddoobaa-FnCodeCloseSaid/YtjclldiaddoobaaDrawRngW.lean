/- The ranges that are drawn: the walk of l02Ranges. -/
import Derived.Test.YtjclldiaddoobaaDrawRng
namespace Go.Proofs.Ytjclldiaddoobaa.rng
open Go.RowKit base Fl same draw
set_option linter.unusedVariables false
attribute [local go_sem] store_f

/-- how the draw of ranges ends -/
def RangesE (w0 w : World) (g : Nat) (e : Ending) (w' : World) : Prop := ∃ (gg n cap : Nat) (F D U : Nat → Nat), e = .returned (.slice (some ⟨gg, 0, none⟩) n cap) ∧ Rs w' (some ⟨gg, 0, none⟩) n cap F D U ∧ goodB n F D U = true ∧ n ≤ 5 ∧ w.heap.size ≤ gg ∧ St w0 w g w'

section
variable {w : World} {W W' : World} {g e size n : Nat} {v : Value} {xs : List Value}
theorem own_ne (h : W.ownsRow w.heap.size e size v n xs) (hg : g < w.heap.size) : v.ownBlock ≠ some g := fun e => by have := (h.lt g e).1; omega
theorem own_g (h : W.ownsRow w.heap.size e size v n xs) (hg : g < w.heap.size) (k : W.grownBy W' (some g)) : W'.ownsRow w.heap.size e size v n xs := h.kept k (Or.inr (own_ne h hg))
theorem own_set (h : W.ownsRow w.heap.size e size v n xs) {p : Addr} (hp : v.ownBlock ≠ some p.block) (u : Value) : (W.setCell p u).ownsRow w.heap.size e size v n xs :=
  h.kept (grown_set (grown_refl W (some p.block)) (Or.inl rfl) u) (Or.inr hp)
end
theorem news3 (W : World) (a b c : Value) (t : TypeId) {nb : Nat} (hnb : nb = W.heap.size) : ∀ (j : Nat) (u : Value), [a, b, c][j]? = some u → (W.alloc (.cells #[a, b, c] t)).cell? ((⟨nb, 0, none⟩ : Addr).add j) = some u := by
  subst hnb
  intro j u h
  rw [Go.WideShapes.add_plain, Nat.zero_add, World.cell?_alloc_new]
  simpa using h
theorem rest_eq {m : Nat} (h : 0 < m) : Value.int .i64 ((m : Int) - 1) = .int .i64 ((m - 1 : Nat) : Int) := by congr 1; omega

theorem done_ {w0 w wr : World} {g : Nat} {L : List (Nat × Nat × Nat)} {full last : Nat} {v : Value} (ho : wr.ownsRow w.heap.size 57 3 v L.length (cellsL L)) (hs : So L full last) (hg : goodB L.length (Fn L) (Dn L) (Un L) = true) (hst : St w0 w g wr) (h1 : 1 ≤ L.length) (h5 : L.length ≤ 5) :
    RangesE w0 w g (.returned v) wr := by
  have ho' := ho
  rcases ho.2 with ⟨_, h0⟩ | ⟨gg, cap, cur, rfl, hb, hh, hc, hm, _, _⟩
  · omega
  · refine ⟨gg, L.length, cap, Fn L, Dn L, Un L, rfl, ⟨hc, by unfold maxLen at hm; omega, fun _ => ⟨gg, 0, rfl, ?_, fun j hj => ?_⟩⟩, hg, h5, hb, hst⟩
    · rcases Nat.lt_or_ge gg wr.heap.size with h | h
      · exact h
      · rw [Array.getElem?_eq_none h] at hh; cases hh
    · obtain ⟨c1, c2, c3⟩ := cellsL_at L j hj
      obtain ⟨i1, i2, i3⟩ := hs.lt j hj
      rw [Nat.zero_add]
      exact ⟨⟨(ho'.cellAt _ (by omega)).trans c1, (ho'.cellAt _ (by omega)).trans c2, (ho'.cellAt _ (by omega)).trans c3⟩, (posw i1).2.2.2.2.2, (posw i2).2.2.2.2.2, (posw i3).2.2.2.2.2⟩

set_option maxHeartbeats 4000000 in
set_option maxRecDepth 100000 in
theorem l02Ranges (w0 w : World) (g : Nat) (hcur : Cur w0 w g) : Calls Try.prog 54 #[.pointer (some ⟨g, 0, none⟩)] w (RangesE w0 w g) := by
  obtain ⟨i0, hi, hz0, hz1, hz2⟩ := info_parts (P := Try.prog) (e := 57) (z := .agg #[.float .f32 0, .float .f32 0, .float .f32 0]) (size := 3) (bytes := 12) (by kernel_rfl)
  have hle := hcur.below.size
  have hglt := hcur.lt
  have ST0 := Lib.hid (St.mk (w := w) hcur (grown_refl w (some g)))
  clear hcur
  go_enter Try.func54, Try.ntmps54
  go_wp2_with fail
  refine (below w0 _ g (ST0.out.alloc _).cur 20 (by omega)).mono ?_
  rintro e w1 ⟨v, rfl, ⟨r, rfl, r0, r1⟩, c1, g1⟩
  have ST1 := Lib.hid ((ST0.out.alloc _).draw c1 g1)
  have hw1 := c1.lt
  have g1' := g1
  clear c1 g1
  go_wp2_with fail
  refine (pickInt w0 _ g (ST1.out.alloc _).cur w1.heap.size 0 3 3 (fun s => s = 1 ∨ s = 10 ∨ s = 1000) (by omega) (by omega) (by omega) (by simp) ?_).mono ?_
  · intro j hj
    obtain ⟨x, hx, hm⟩ := cells_new w1 [1, 10, 1000] 3 j hj
    exact ⟨x, hx, by simpa using hm⟩
  rintro e w2 ⟨v, rfl, ⟨s, rfl, hs⟩, c2, g2⟩
  have ST2 := Lib.hid ((ST1.out.alloc _).draw c2 g2)
  have OW2 := Lib.hid (own_g ((own_g (World.ownsRow_lit (base := w.heap.size) (e := 57) (size := 3) w #[] 0 (Nat.le_refl _) (by omega) rfl) hglt g1').alloc (.cells (([1, 10, 1000] : List Int).map (Value.int .i64)).toArray 3)) hglt g2)
  obtain ⟨full0, hfull, f1, f2, f3⟩ := first_full (a := (1 + r).toNat) (b := s.toNat) (by omega) (by omega) (by rcases hs with rfl | rfl | rfl <;> decide) (by rcases hs with rfl | rfl | rfl <;> decide)
  rw [show (((1 + r).toNat : Nat) : Int) = 1 + r by omega, show ((s.toNat : Nat) : Int) = s from by rcases hs with rfl | rfl | rfl <;> rfl] at hfull
  have q1 := fun W : World => run_float_arith (P := Try.prog) W .quo 29 .f32 _ _ _ hfull
  clear hfull c2 g2 hs
  go_wp2_with fail
  refine (below w0 _ g ST2.out.cur 5 (by omega)).mono ?_
  rintro e w3 ⟨v, rfl, ⟨m, rfl, m0, m1⟩, c3, g3⟩
  have ST3 := Lib.hid (ST2.out.draw c3 g3)
  have OW3 := Lib.hid (own_g OW2.out hglt g3)
  clear c3 g3 q1
  go_wp2_with fail
  go_loopw [3, 4, 5, 6] (fun v f l i wr => ∃ (L : List (Nat × Nat × Nat)) (full last k : Nat), f = .float .f32 full ∧ l = .float .f32 last ∧ i = .int .i64 k ∧ L.length + k ≤ 5 ∧ 1 ≤ L.length + k ∧ wr.ownsRow w.heap.size 57 3 v L.length (cellsL L) ∧ So L full last ∧ St w0 w g wr) (fun _ _ _ i _ => (intOf i).toNat)
  case atStart => exact ⟨[], full0, 0, (1 + m).toNat, rfl, rfl, by congr 1; omega, by simp; omega, by simp; omega, OW3.out, ⟨fun j hj => absurd hj (by simp), fun j hj => absurd hj (by simp), f1, by simpa using f2, by rw [S_I]; omega, fun _ => rfl, fun h => absurd h (by simp)⟩, ST3.out⟩
  case round =>
    obtain ⟨L, full, last, k, rfl, rfl, rfl, l1, l2, hown, hso, hst⟩ := hrel
    have HO := Lib.hid hso
    have STR := Lib.hid hst
    have OWR := Lib.hid hown
    have hll := hso.fl
    have hfI := fin_of_le hso.hi (by omega)
    have hrb : w.heap.size ≤ wr.heap.size := hst.gr.size
    rcases Nat.eq_zero_or_pos k with hk0 | hk0
    · subst hk0
      have hgood := hso.good (by omega) (by omega)
      have HG := Lib.hid hgood
      clear hso hst hown hgood
      go_wp2_with fail
      go_ret
      exact done_ OWR.out HO.out HG.out STR.out (by omega) (by omega)
    · obtain ⟨half, hh, hh1⟩ := half_ hll
      obtain ⟨t, qv, ht, hq, hq0, hq1⟩ := quarters hso.low hso.hi (by omega)
      have qh := fun W : World => run_float_arith (P := Try.prog) W .quo 29 .f32 _ _ _ hh
      have qt := fun W : World => run_float_arith (P := Try.prog) W .mul 29 .f32 _ _ _ ht
      have qq := fun W : World => run_float_arith (P := Try.prog) W .quo 29 .f32 _ _ _ hq
      have hf0 : 0 < full := by have := hso.low; have : 0 < lo := (by decide); omega
      have hvrb : u3.ownBlock ≠ some wr.heap.size := fun e => by have := (hown.lt _ e).2; omega
      have hrg : some wr.heap.size ≠ some g := by simp; omega
      clear hso hst hown hh ht hq
      go_wp2_with fail
      refine (once w0 _ g (STR.out.alloc (.cells #[.float .f32 full, .float .f32 half, .float .f32 full] 57)).cur 2 (by omega)).mono ?_
      rintro e w4 ⟨_, rfl, ⟨b1, rfl⟩, c4, g4⟩
      have ST4 := Lib.hid ((STR.out.alloc _).draw c4 g4)
      have OW4 := Lib.hid (own_g (OWR.out.alloc _) hglt g4)
      have B4 := (Bk.new wr full half full).grown g4 hrg
      have x0 := B4.c0; have x1 := B4.c1; have x2 := B4.c2
      have y0 := B4.fr 0; have y1 := B4.fr 1; have y2 := B4.fr 2
      clear c4 g4
      cases b1 with
      | true =>
        have B5 := B4.set2 qv
        have ST5 := Lib.hid (ST4.out.set_ hle hglt (p := ⟨wr.heap.size, 2, none⟩) hrb (.float .f32 qv))
        have OW5 := Lib.hid (own_set OW4.out (p := ⟨wr.heap.size, 2, none⟩) hvrb (.float .f32 qv))
        clear B4
        go_wp2_with fail
        refine (once w0 _ g ST5.out.cur 3 (by omega)).mono ?_
        clear x0 x1 x2 y0 y1 y2
        rintro e w6 ⟨_, rfl, ⟨b2, rfl⟩, c6, g6⟩
        have ST6 := Lib.hid (ST5.out.draw c6 g6)
        have OW6 := Lib.hid (own_g OW5.out hglt g6)
        have B6 := B5.grown g6 hrg
        have z0 := B6.c0; have z1 := B6.c1; have z2 := B6.c2
        have u0 := B6.fr 0; have u1 := B6.fr 1; have u2 := B6.fr 2
        clear c6 g6 B5 B6
        cases b2 with
        | true =>
          by_cases hge : qv ≤ last
          · have hgb : geB last qv = true := by rw [geB_pos (by omega) (by omega)]; exact decide_eq_true hge
            have HGE := Lib.hid hge
            unfold geB at hgb
            clear hge
            have OWX := own_set (own_set OW6.out (p := ⟨wr.heap.size, 1, none⟩) hvrb (.float .f32 last)) (p := ⟨wr.heap.size, 1, none⟩) hvrb (.float .f32 0)
            have STX := (ST6.out.set_ hle hglt (p := ⟨wr.heap.size, 1, none⟩) STR.out.gr.size (.float .f32 last)).set_ hle hglt (p := ⟨wr.heap.size, 1, none⟩) STR.out.gr.size (.float .f32 0)
            have OWA := Lib.hid (OWX.alloc (.cells #[.float .f32 full, .float .f32 0, .float .f32 qv] 57))
            have STA := Lib.hid (STX.alloc (.cells #[.float .f32 full, .float .f32 0, .float .f32 qv] 57))
            clear OWX STX
            go_wp2_with (at_builtin; refine wpList_append_own _ rfl _ _ 25 rfl w.heap.size 57 i0 (.agg #[.float .f32 0, .float .f32 0, .float .f32 0]) 3 12 Try.underlying25 hi hz0 hz1 hz2 rfl (by decide) _ _ _ rfl OWA.out ⟨_, 0, none⟩ 1 1 [.float .f32 full, .float .f32 0, .float .f32 qv] rfl rfl (news3 _ _ _ _ _ (by simp)) (by simp [Value.oneCell']) (by unfold maxLen; omega) (by omega) STA.out.gr.size ?_; intro v8 w8 own8 gr8 _)
            have OW8 := Lib.hid own8
            have ST8 := Lib.hid (STA.out.row hle hglt gr8 (fun b e => (OWA.out.lt b e).1))
            clear own8 gr8
            refine (pickInt w0 _ g (ST8.out.alloc _).cur w8.heap.size 0 3 3 (fun s => s = 2 ∨ s = 3 ∨ s = 10) (by omega) (by omega) (by have := ST8.out.gr.size; omega) (by simp) ?_).mono ?_
            · intro j hj
              obtain ⟨x, hx, hm⟩ := cells_new w8 [2, 3, 10] 3 j hj
              exact ⟨x, hx, by simpa using hm⟩
            rintro e w9 ⟨_, rfl, ⟨s, rfl, hs⟩, c9, g9⟩
            have ST9 := Lib.hid ((ST8.out.alloc _).draw c9 g9)
            have OW9 := Lib.hid (own_g (OW8.out.alloc _) hglt g9)
            clear c9 g9
            obtain ⟨full', hn', n1, n2, n3⟩ := next_full (c := s.toNat) HO.out.low HO.out.hi (by omega) (by rcases hs with rfl | rfl | rfl <;> decide) (by rcases hs with rfl | rfl | rfl <;> decide)
            rw [show ((s.toNat : Nat) : Int) = s from by rcases hs with rfl | rfl | rfl <;> rfl] at hn'
            have qn := fun W : World => run_float_arith (P := Try.prog) W .mul 29 .f32 _ _ _ hn'
            have HSO := Lib.hid (HO.out.step (d := 0) (u := qv) (by omega) (by omega) (by omega) (by omega) n1 n2)
            clear hn' n1 n2 n3
            go_wp2_with fail
            go_roundw
            case rel =>
              have hO := OW9.out
              rw [← cellsL_app, show L.length + 1 = (L ++ [(full, 0, qv)]).length by simp] at hO
              exact ⟨L ++ [(full, 0, qv)], full', qv, k - 1, rfl, rfl, rest_eq hk0, by simp; omega, by simp; omega, hO, HSO.out, ST9.out⟩
            case measure => simp [intOf]; omega
          · have hgb : geB last qv = false := by rw [geB_pos (by omega) (by omega)]; exact decide_eq_false hge
            have hge' : last < qv := by omega
            unfold geB at hgb
            have OWX := own_set OW6.out (p := ⟨wr.heap.size, 1, none⟩) hvrb (.float .f32 last)
            have STX := ST6.out.set_ hle hglt (p := ⟨wr.heap.size, 1, none⟩) STR.out.gr.size (.float .f32 last)
            have OWA := Lib.hid (OWX.alloc (.cells #[.float .f32 full, .float .f32 last, .float .f32 qv] 57))
            have STA := Lib.hid (STX.alloc (.cells #[.float .f32 full, .float .f32 last, .float .f32 qv] 57))
            clear OWX STX
            go_wp2_with (at_builtin; refine wpList_append_own _ rfl _ _ 25 rfl w.heap.size 57 i0 (.agg #[.float .f32 0, .float .f32 0, .float .f32 0]) 3 12 Try.underlying25 hi hz0 hz1 hz2 rfl (by decide) _ _ _ rfl OWA.out ⟨_, 0, none⟩ 1 1 [.float .f32 full, .float .f32 last, .float .f32 qv] rfl rfl (news3 _ _ _ _ _ (by simp)) (by simp [Value.oneCell']) (by unfold maxLen; omega) (by omega) STA.out.gr.size ?_; intro v8 w8 own8 gr8 _)
            have OW8 := Lib.hid own8
            have ST8 := Lib.hid (STA.out.row hle hglt gr8 (fun b e => (OWA.out.lt b e).1))
            clear own8 gr8
            refine (pickInt w0 _ g (ST8.out.alloc _).cur w8.heap.size 0 3 3 (fun s => s = 2 ∨ s = 3 ∨ s = 10) (by omega) (by omega) (by have := ST8.out.gr.size; omega) (by simp) ?_).mono ?_
            · intro j hj
              obtain ⟨x, hx, hm⟩ := cells_new w8 [2, 3, 10] 3 j hj
              exact ⟨x, hx, by simpa using hm⟩
            rintro e w9 ⟨_, rfl, ⟨s, rfl, hs⟩, c9, g9⟩
            have ST9 := Lib.hid ((ST8.out.alloc _).draw c9 g9)
            have OW9 := Lib.hid (own_g (OW8.out.alloc _) hglt g9)
            clear c9 g9
            obtain ⟨full', hn', n1, n2, n3⟩ := next_full (c := s.toNat) HO.out.low HO.out.hi (by omega) (by rcases hs with rfl | rfl | rfl <;> decide) (by rcases hs with rfl | rfl | rfl <;> decide)
            rw [show ((s.toNat : Nat) : Int) = s from by rcases hs with rfl | rfl | rfl <;> rfl] at hn'
            have qn := fun W : World => run_float_arith (P := Try.prog) W .mul 29 .f32 _ _ _ hn'
            have HSO := Lib.hid (HO.out.step (d := last) (u := qv) (by omega) (by omega) (by omega) (by omega) n1 n2)
            clear hn' n1 n2 n3
            go_wp2_with fail
            go_roundw
            case rel =>
              have hO := OW9.out
              rw [← cellsL_app, show L.length + 1 = (L ++ [(full, last, qv)]).length by simp] at hO
              exact ⟨L ++ [(full, last, qv)], full', qv, k - 1, rfl, rfl, rest_eq hk0, by simp; omega, by simp; omega, hO, HSO.out, ST9.out⟩
            case measure => simp [intOf]; omega
        | false =>
          by_cases hge : qv ≤ half
          · have hgb : geB half qv = true := by rw [geB_pos (by omega) (by omega)]; exact decide_eq_true hge
            have HGE := Lib.hid hge
            unfold geB at hgb
            clear hge
            have OWX := own_set (OW6.out) (p := ⟨wr.heap.size, 1, none⟩) hvrb (.float .f32 0)
            have STX := (ST6.out).set_ hle hglt (p := ⟨wr.heap.size, 1, none⟩) STR.out.gr.size (.float .f32 0)
            have OWA := Lib.hid (OWX.alloc (.cells #[.float .f32 full, .float .f32 0, .float .f32 qv] 57))
            have STA := Lib.hid (STX.alloc (.cells #[.float .f32 full, .float .f32 0, .float .f32 qv] 57))
            clear OWX STX
            go_wp2_with (at_builtin; refine wpList_append_own _ rfl _ _ 25 rfl w.heap.size 57 i0 (.agg #[.float .f32 0, .float .f32 0, .float .f32 0]) 3 12 Try.underlying25 hi hz0 hz1 hz2 rfl (by decide) _ _ _ rfl OWA.out ⟨_, 0, none⟩ 1 1 [.float .f32 full, .float .f32 0, .float .f32 qv] rfl rfl (news3 _ _ _ _ _ (by simp)) (by simp [Value.oneCell']) (by unfold maxLen; omega) (by omega) STA.out.gr.size ?_; intro v8 w8 own8 gr8 _)
            have OW8 := Lib.hid own8
            have ST8 := Lib.hid (STA.out.row hle hglt gr8 (fun b e => (OWA.out.lt b e).1))
            clear own8 gr8
            refine (pickInt w0 _ g (ST8.out.alloc _).cur w8.heap.size 0 3 3 (fun s => s = 2 ∨ s = 3 ∨ s = 10) (by omega) (by omega) (by have := ST8.out.gr.size; omega) (by simp) ?_).mono ?_
            · intro j hj
              obtain ⟨x, hx, hm⟩ := cells_new w8 [2, 3, 10] 3 j hj
              exact ⟨x, hx, by simpa using hm⟩
            rintro e w9 ⟨_, rfl, ⟨s, rfl, hs⟩, c9, g9⟩
            have ST9 := Lib.hid ((ST8.out.alloc _).draw c9 g9)
            have OW9 := Lib.hid (own_g (OW8.out.alloc _) hglt g9)
            clear c9 g9
            obtain ⟨full', hn', n1, n2, n3⟩ := next_full (c := s.toNat) HO.out.low HO.out.hi (by omega) (by rcases hs with rfl | rfl | rfl <;> decide) (by rcases hs with rfl | rfl | rfl <;> decide)
            rw [show ((s.toNat : Nat) : Int) = s from by rcases hs with rfl | rfl | rfl <;> rfl] at hn'
            have qn := fun W : World => run_float_arith (P := Try.prog) W .mul 29 .f32 _ _ _ hn'
            have HSO := Lib.hid (HO.out.step (d := 0) (u := qv) (by omega) (by omega) (by omega) (by omega) n1 n2)
            clear hn' n1 n2 n3
            go_wp2_with fail
            go_roundw
            case rel =>
              have hO := OW9.out
              rw [← cellsL_app, show L.length + 1 = (L ++ [(full, 0, qv)]).length by simp] at hO
              exact ⟨L ++ [(full, 0, qv)], full', qv, k - 1, rfl, rfl, rest_eq hk0, by simp; omega, by simp; omega, hO, HSO.out, ST9.out⟩
            case measure => simp [intOf]; omega
          · have hgb : geB half qv = false := by rw [geB_pos (by omega) (by omega)]; exact decide_eq_false hge
            have hge' : half < qv := by omega
            unfold geB at hgb
            have OWX := OW6.out
            have STX := ST6.out
            have OWA := Lib.hid (OWX.alloc (.cells #[.float .f32 full, .float .f32 half, .float .f32 qv] 57))
            have STA := Lib.hid (STX.alloc (.cells #[.float .f32 full, .float .f32 half, .float .f32 qv] 57))
            clear OWX STX
            go_wp2_with (at_builtin; refine wpList_append_own _ rfl _ _ 25 rfl w.heap.size 57 i0 (.agg #[.float .f32 0, .float .f32 0, .float .f32 0]) 3 12 Try.underlying25 hi hz0 hz1 hz2 rfl (by decide) _ _ _ rfl OWA.out ⟨_, 0, none⟩ 1 1 [.float .f32 full, .float .f32 half, .float .f32 qv] rfl rfl (news3 _ _ _ _ _ (by simp)) (by simp [Value.oneCell']) (by unfold maxLen; omega) (by omega) STA.out.gr.size ?_; intro v8 w8 own8 gr8 _)
            have OW8 := Lib.hid own8
            have ST8 := Lib.hid (STA.out.row hle hglt gr8 (fun b e => (OWA.out.lt b e).1))
            clear own8 gr8
            refine (pickInt w0 _ g (ST8.out.alloc _).cur w8.heap.size 0 3 3 (fun s => s = 2 ∨ s = 3 ∨ s = 10) (by omega) (by omega) (by have := ST8.out.gr.size; omega) (by simp) ?_).mono ?_
            · intro j hj
              obtain ⟨x, hx, hm⟩ := cells_new w8 [2, 3, 10] 3 j hj
              exact ⟨x, hx, by simpa using hm⟩
            rintro e w9 ⟨_, rfl, ⟨s, rfl, hs⟩, c9, g9⟩
            have ST9 := Lib.hid ((ST8.out.alloc _).draw c9 g9)
            have OW9 := Lib.hid (own_g (OW8.out.alloc _) hglt g9)
            clear c9 g9
            obtain ⟨full', hn', n1, n2, n3⟩ := next_full (c := s.toNat) HO.out.low HO.out.hi (by omega) (by rcases hs with rfl | rfl | rfl <;> decide) (by rcases hs with rfl | rfl | rfl <;> decide)
            rw [show ((s.toNat : Nat) : Int) = s from by rcases hs with rfl | rfl | rfl <;> rfl] at hn'
            have qn := fun W : World => run_float_arith (P := Try.prog) W .mul 29 .f32 _ _ _ hn'
            have HSO := Lib.hid (HO.out.step (d := half) (u := qv) (by omega) (by omega) (by omega) (by omega) n1 n2)
            clear hn' n1 n2 n3
            go_wp2_with fail
            go_roundw
            case rel =>
              have hO := OW9.out
              rw [← cellsL_app, show L.length + 1 = (L ++ [(full, half, qv)]).length by simp] at hO
              exact ⟨L ++ [(full, half, qv)], full', qv, k - 1, rfl, rfl, rest_eq hk0, by simp; omega, by simp; omega, hO, HSO.out, ST9.out⟩
            case measure => simp [intOf]; omega
      | false =>
        have B5 := B4
        have ST5 := ST4
        have OW5 := OW4
        clear B4
        go_wp2_with fail
        refine (once w0 _ g ST5.out.cur 3 (by omega)).mono ?_
        clear x0 x1 x2 y0 y1 y2
        rintro e w6 ⟨_, rfl, ⟨b2, rfl⟩, c6, g6⟩
        have ST6 := Lib.hid (ST5.out.draw c6 g6)
        have OW6 := Lib.hid (own_g OW5.out hglt g6)
        have B6 := B5.grown g6 hrg
        have z0 := B6.c0; have z1 := B6.c1; have z2 := B6.c2
        have u0 := B6.fr 0; have u1 := B6.fr 1; have u2 := B6.fr 2
        clear c6 g6 B5 B6
        cases b2 with
        | true =>
          by_cases hge : full ≤ last
          · have hgb : geB last full = true := by rw [geB_pos (by omega) (by omega)]; exact decide_eq_true hge
            have HGE := Lib.hid hge
            unfold geB at hgb
            clear hge
            have OWX := own_set (own_set OW6.out (p := ⟨wr.heap.size, 1, none⟩) hvrb (.float .f32 last)) (p := ⟨wr.heap.size, 1, none⟩) hvrb (.float .f32 0)
            have STX := (ST6.out.set_ hle hglt (p := ⟨wr.heap.size, 1, none⟩) STR.out.gr.size (.float .f32 last)).set_ hle hglt (p := ⟨wr.heap.size, 1, none⟩) STR.out.gr.size (.float .f32 0)
            have OWA := Lib.hid (OWX.alloc (.cells #[.float .f32 full, .float .f32 0, .float .f32 full] 57))
            have STA := Lib.hid (STX.alloc (.cells #[.float .f32 full, .float .f32 0, .float .f32 full] 57))
            clear OWX STX
            go_wp2_with (at_builtin; refine wpList_append_own _ rfl _ _ 25 rfl w.heap.size 57 i0 (.agg #[.float .f32 0, .float .f32 0, .float .f32 0]) 3 12 Try.underlying25 hi hz0 hz1 hz2 rfl (by decide) _ _ _ rfl OWA.out ⟨_, 0, none⟩ 1 1 [.float .f32 full, .float .f32 0, .float .f32 full] rfl rfl (news3 _ _ _ _ _ (by simp)) (by simp [Value.oneCell']) (by unfold maxLen; omega) (by omega) STA.out.gr.size ?_; intro v8 w8 own8 gr8 _)
            have OW8 := Lib.hid own8
            have ST8 := Lib.hid (STA.out.row hle hglt gr8 (fun b e => (OWA.out.lt b e).1))
            clear own8 gr8
            refine (pickInt w0 _ g (ST8.out.alloc _).cur w8.heap.size 0 3 3 (fun s => s = 2 ∨ s = 3 ∨ s = 10) (by omega) (by omega) (by have := ST8.out.gr.size; omega) (by simp) ?_).mono ?_
            · intro j hj
              obtain ⟨x, hx, hm⟩ := cells_new w8 [2, 3, 10] 3 j hj
              exact ⟨x, hx, by simpa using hm⟩
            rintro e w9 ⟨_, rfl, ⟨s, rfl, hs⟩, c9, g9⟩
            have ST9 := Lib.hid ((ST8.out.alloc _).draw c9 g9)
            have OW9 := Lib.hid (own_g (OW8.out.alloc _) hglt g9)
            clear c9 g9
            obtain ⟨full', hn', n1, n2, n3⟩ := next_full (c := s.toNat) HO.out.low HO.out.hi (by omega) (by rcases hs with rfl | rfl | rfl <;> decide) (by rcases hs with rfl | rfl | rfl <;> decide)
            rw [show ((s.toNat : Nat) : Int) = s from by rcases hs with rfl | rfl | rfl <;> rfl] at hn'
            have qn := fun W : World => run_float_arith (P := Try.prog) W .mul 29 .f32 _ _ _ hn'
            have HSO := Lib.hid (HO.out.step (d := 0) (u := full) (by omega) (by omega) (by omega) (by omega) n1 n2)
            clear hn' n1 n2 n3
            go_wp2_with fail
            go_roundw
            case rel =>
              have hO := OW9.out
              rw [← cellsL_app, show L.length + 1 = (L ++ [(full, 0, full)]).length by simp] at hO
              exact ⟨L ++ [(full, 0, full)], full', full, k - 1, rfl, rfl, rest_eq hk0, by simp; omega, by simp; omega, hO, HSO.out, ST9.out⟩
            case measure => simp [intOf]; omega
          · have hgb : geB last full = false := by rw [geB_pos (by omega) (by omega)]; exact decide_eq_false hge
            have hge' : last < full := by omega
            unfold geB at hgb
            have OWX := own_set OW6.out (p := ⟨wr.heap.size, 1, none⟩) hvrb (.float .f32 last)
            have STX := ST6.out.set_ hle hglt (p := ⟨wr.heap.size, 1, none⟩) STR.out.gr.size (.float .f32 last)
            have OWA := Lib.hid (OWX.alloc (.cells #[.float .f32 full, .float .f32 last, .float .f32 full] 57))
            have STA := Lib.hid (STX.alloc (.cells #[.float .f32 full, .float .f32 last, .float .f32 full] 57))
            clear OWX STX
            go_wp2_with (at_builtin; refine wpList_append_own _ rfl _ _ 25 rfl w.heap.size 57 i0 (.agg #[.float .f32 0, .float .f32 0, .float .f32 0]) 3 12 Try.underlying25 hi hz0 hz1 hz2 rfl (by decide) _ _ _ rfl OWA.out ⟨_, 0, none⟩ 1 1 [.float .f32 full, .float .f32 last, .float .f32 full] rfl rfl (news3 _ _ _ _ _ (by simp)) (by simp [Value.oneCell']) (by unfold maxLen; omega) (by omega) STA.out.gr.size ?_; intro v8 w8 own8 gr8 _)
            have OW8 := Lib.hid own8
            have ST8 := Lib.hid (STA.out.row hle hglt gr8 (fun b e => (OWA.out.lt b e).1))
            clear own8 gr8
            refine (pickInt w0 _ g (ST8.out.alloc _).cur w8.heap.size 0 3 3 (fun s => s = 2 ∨ s = 3 ∨ s = 10) (by omega) (by omega) (by have := ST8.out.gr.size; omega) (by simp) ?_).mono ?_
            · intro j hj
              obtain ⟨x, hx, hm⟩ := cells_new w8 [2, 3, 10] 3 j hj
              exact ⟨x, hx, by simpa using hm⟩
            rintro e w9 ⟨_, rfl, ⟨s, rfl, hs⟩, c9, g9⟩
            have ST9 := Lib.hid ((ST8.out.alloc _).draw c9 g9)
            have OW9 := Lib.hid (own_g (OW8.out.alloc _) hglt g9)
            clear c9 g9
            obtain ⟨full', hn', n1, n2, n3⟩ := next_full (c := s.toNat) HO.out.low HO.out.hi (by omega) (by rcases hs with rfl | rfl | rfl <;> decide) (by rcases hs with rfl | rfl | rfl <;> decide)
            rw [show ((s.toNat : Nat) : Int) = s from by rcases hs with rfl | rfl | rfl <;> rfl] at hn'
            have qn := fun W : World => run_float_arith (P := Try.prog) W .mul 29 .f32 _ _ _ hn'
            have HSO := Lib.hid (HO.out.step (d := last) (u := full) (by omega) (by omega) (by omega) (by omega) n1 n2)
            clear hn' n1 n2 n3
            go_wp2_with fail
            go_roundw
            case rel =>
              have hO := OW9.out
              rw [← cellsL_app, show L.length + 1 = (L ++ [(full, last, full)]).length by simp] at hO
              exact ⟨L ++ [(full, last, full)], full', full, k - 1, rfl, rfl, rest_eq hk0, by simp; omega, by simp; omega, hO, HSO.out, ST9.out⟩
            case measure => simp [intOf]; omega
        | false =>
          by_cases hge : full ≤ half
          · have hgb : geB half full = true := by rw [geB_pos (by omega) (by omega)]; exact decide_eq_true hge
            have HGE := Lib.hid hge
            unfold geB at hgb
            clear hge
            have OWX := own_set (OW6.out) (p := ⟨wr.heap.size, 1, none⟩) hvrb (.float .f32 0)
            have STX := (ST6.out).set_ hle hglt (p := ⟨wr.heap.size, 1, none⟩) STR.out.gr.size (.float .f32 0)
            have OWA := Lib.hid (OWX.alloc (.cells #[.float .f32 full, .float .f32 0, .float .f32 full] 57))
            have STA := Lib.hid (STX.alloc (.cells #[.float .f32 full, .float .f32 0, .float .f32 full] 57))
            clear OWX STX
            go_wp2_with (at_builtin; refine wpList_append_own _ rfl _ _ 25 rfl w.heap.size 57 i0 (.agg #[.float .f32 0, .float .f32 0, .float .f32 0]) 3 12 Try.underlying25 hi hz0 hz1 hz2 rfl (by decide) _ _ _ rfl OWA.out ⟨_, 0, none⟩ 1 1 [.float .f32 full, .float .f32 0, .float .f32 full] rfl rfl (news3 _ _ _ _ _ (by simp)) (by simp [Value.oneCell']) (by unfold maxLen; omega) (by omega) STA.out.gr.size ?_; intro v8 w8 own8 gr8 _)
            have OW8 := Lib.hid own8
            have ST8 := Lib.hid (STA.out.row hle hglt gr8 (fun b e => (OWA.out.lt b e).1))
            clear own8 gr8
            refine (pickInt w0 _ g (ST8.out.alloc _).cur w8.heap.size 0 3 3 (fun s => s = 2 ∨ s = 3 ∨ s = 10) (by omega) (by omega) (by have := ST8.out.gr.size; omega) (by simp) ?_).mono ?_
            · intro j hj
              obtain ⟨x, hx, hm⟩ := cells_new w8 [2, 3, 10] 3 j hj
              exact ⟨x, hx, by simpa using hm⟩
            rintro e w9 ⟨_, rfl, ⟨s, rfl, hs⟩, c9, g9⟩
            have ST9 := Lib.hid ((ST8.out.alloc _).draw c9 g9)
            have OW9 := Lib.hid (own_g (OW8.out.alloc _) hglt g9)
            clear c9 g9
            obtain ⟨full', hn', n1, n2, n3⟩ := next_full (c := s.toNat) HO.out.low HO.out.hi (by omega) (by rcases hs with rfl | rfl | rfl <;> decide) (by rcases hs with rfl | rfl | rfl <;> decide)
            rw [show ((s.toNat : Nat) : Int) = s from by rcases hs with rfl | rfl | rfl <;> rfl] at hn'
            have qn := fun W : World => run_float_arith (P := Try.prog) W .mul 29 .f32 _ _ _ hn'
            have HSO := Lib.hid (HO.out.step (d := 0) (u := full) (by omega) (by omega) (by omega) (by omega) n1 n2)
            clear hn' n1 n2 n3
            go_wp2_with fail
            go_roundw
            case rel =>
              have hO := OW9.out
              rw [← cellsL_app, show L.length + 1 = (L ++ [(full, 0, full)]).length by simp] at hO
              exact ⟨L ++ [(full, 0, full)], full', full, k - 1, rfl, rfl, rest_eq hk0, by simp; omega, by simp; omega, hO, HSO.out, ST9.out⟩
            case measure => simp [intOf]; omega
          · have hgb : geB half full = false := by rw [geB_pos (by omega) (by omega)]; exact decide_eq_false hge
            have hge' : half < full := by omega
            unfold geB at hgb
            have OWX := OW6.out
            have STX := ST6.out
            have OWA := Lib.hid (OWX.alloc (.cells #[.float .f32 full, .float .f32 half, .float .f32 full] 57))
            have STA := Lib.hid (STX.alloc (.cells #[.float .f32 full, .float .f32 half, .float .f32 full] 57))
            clear OWX STX
            go_wp2_with (at_builtin; refine wpList_append_own _ rfl _ _ 25 rfl w.heap.size 57 i0 (.agg #[.float .f32 0, .float .f32 0, .float .f32 0]) 3 12 Try.underlying25 hi hz0 hz1 hz2 rfl (by decide) _ _ _ rfl OWA.out ⟨_, 0, none⟩ 1 1 [.float .f32 full, .float .f32 half, .float .f32 full] rfl rfl (news3 _ _ _ _ _ (by simp)) (by simp [Value.oneCell']) (by unfold maxLen; omega) (by omega) STA.out.gr.size ?_; intro v8 w8 own8 gr8 _)
            have OW8 := Lib.hid own8
            have ST8 := Lib.hid (STA.out.row hle hglt gr8 (fun b e => (OWA.out.lt b e).1))
            clear own8 gr8
            refine (pickInt w0 _ g (ST8.out.alloc _).cur w8.heap.size 0 3 3 (fun s => s = 2 ∨ s = 3 ∨ s = 10) (by omega) (by omega) (by have := ST8.out.gr.size; omega) (by simp) ?_).mono ?_
            · intro j hj
              obtain ⟨x, hx, hm⟩ := cells_new w8 [2, 3, 10] 3 j hj
              exact ⟨x, hx, by simpa using hm⟩
            rintro e w9 ⟨_, rfl, ⟨s, rfl, hs⟩, c9, g9⟩
            have ST9 := Lib.hid ((ST8.out.alloc _).draw c9 g9)
            have OW9 := Lib.hid (own_g (OW8.out.alloc _) hglt g9)
            clear c9 g9
            obtain ⟨full', hn', n1, n2, n3⟩ := next_full (c := s.toNat) HO.out.low HO.out.hi (by omega) (by rcases hs with rfl | rfl | rfl <;> decide) (by rcases hs with rfl | rfl | rfl <;> decide)
            rw [show ((s.toNat : Nat) : Int) = s from by rcases hs with rfl | rfl | rfl <;> rfl] at hn'
            have qn := fun W : World => run_float_arith (P := Try.prog) W .mul 29 .f32 _ _ _ hn'
            have HSO := Lib.hid (HO.out.step (d := half) (u := full) (by omega) (by omega) (by omega) (by omega) n1 n2)
            clear hn' n1 n2 n3
            go_wp2_with fail
            go_roundw
            case rel =>
              have hO := OW9.out
              rw [← cellsL_app, show L.length + 1 = (L ++ [(full, half, full)]).length by simp] at hO
              exact ⟨L ++ [(full, half, full)], full', full, k - 1, rfl, rfl, rest_eq hk0, by simp; omega, by simp; omega, hO, HSO.out, ST9.out⟩
            case measure => simp [intOf]; omega
end Go.Proofs.Ytjclldiaddoobaa.rng
