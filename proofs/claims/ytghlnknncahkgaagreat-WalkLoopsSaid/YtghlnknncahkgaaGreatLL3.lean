/-
  gypsumlaw21.WalkLoops returns true, by walking its text.
-/
import Derived.Test.YtghlnknncahkgaaGreatLL2
import Derived.Test.YtghlnknncahkgaaGreatLL1
import Derived.Test.YtghlnknncahkgaaGreatK14
namespace Go.Proofs.YtghlnknncahkgaaGreat
open Go.RowKit Go.Maps Go.Shelf
attribute [local go_sem] Oper.semAt_some

/-- The law's four variables, between two rounds. -/
def LpI (w : World) (T : List Tr) (c : Nat) (pre : List WStep) (C : Nat → Prop) (W : World) : Prop :=
  (∀ k, C k ↔ w.heap.size ≤ k ∧ k < w.heap.size + 4) ∧ Below w.heap.size w W ∧ ∃ (len loops : Int) (over : Bool), Blk W w.heap.size 3 #[.int .i64 len] ∧ Blk W (w.heap.size + 1) 3 #[.int .i64 loops] ∧ Blk W (w.heap.size + 1 + 1) 4 #[.bool over] ∧ Blk W (w.heap.size + 1 + 1 + 1) 3 #[.int .i64 pre.length] ∧ LpSt T c pre len loops over
theorem lpI_stable {w : World} {T : List Tr} {c : Nat} : Stable w.heap.size (LpI w T c) := by
  rintro pre C A B ⟨hC, hB, len, loops, over, b1, b2, b3, b4, h⟩ hb hs
  exact ⟨hC, hB.trans (hb.mono (Nat.le_refl _)), len, loops, over, blk_same b1 (hs _ ((hC _).2 (by omega))), blk_same b2 (hs _ ((hC _).2 (by omega))), blk_same b3 (hs _ ((hC _).2 (by omega))), blk_same b4 (hs _ ((hC _).2 (by omega))), h⟩
set_option maxRecDepth 100000 in
set_option maxHeartbeats 8000000 in
theorem walkLoops_walk (N : Int) (v : Value) (T : List Tr) (r : Int) (w : World) (h : TrisRd w v T) (hr : 0 ≤ r ∧ r ≤ 255) :
    Calls Tryz.prog 9 #[.agg #[.int .i64 N, v], .int .u8 r] w fun e w' => e = .returned (.bool true) ∧ Below w.heap.size w w' := by
  have hB0 : Below w.heap.size w ((w.alloc (.cells #[.int .i64 N, v] 24)).alloc (.cells #[.bool false] 4)) := ((Below.refl _ _).alloc (Nat.le_refl _) _).alloc (by simp) _
  have bs := (Blk.new w 24 #[.int .i64 N, v]).alloc (.cells #[.bool false] 4)
  have br : Blk ((w.alloc (.cells #[.int .i64 N, v] 24)).alloc (.cells #[.bool false] 4)) (w.heap.size + 1) 4 #[.bool false] := blk_new_at (by simp)
  have HS := Lib.hid (simpleL_any N v T r _ (h.below hB0) hr)
  have HA := Lib.hid awake21_any
  obtain ⟨a, c, rfl, -, -, -⟩ := h
  have HB0 := Lib.hid hB0
  have HBs := Lib.hid bs
  have HBr := Lib.hid br
  obtain ⟨l0, x0, -, x1, -⟩ := bs.two
  clear hB0 bs br
  refine (callsIn_wide (n := 9)).1 ?_
  refine callsIn_of_wp_marks Tryz.func9 rfl trivial ?_ rfl
  simp only [Tryz.ntmps9, List.size_toArray, List.length_cons, List.length_nil, Nat.reduceAdd, Nat.reduceSub, Array.replicate_succ, Array.replicate_zero, List.push_toArray, List.append_toArray, List.nil_append, List.cons_append]
  gi_hideQ
  gi_wp2_with fail
  refine ⟨trivial, (callsIn_wide.2 HS.out).mono ?_⟩
  rintro e w1 ⟨p, cz, b, rfl, hfit, hb1⟩
  have HB1 := Lib.hid (HB0.out.trans (hb1.mono HB0.out.size))
  have HBs1 := Lib.hid (HBs.out.below hb1 HBs.out.lt)
  have HBr1 := Lib.hid (HBr.out.below hb1 HBr.out.lt)
  clear hb1 HB0 HBs HBr x0 x1 l0 HS
  cases b
  · clear hfit
    gi_wp2_with fail
    refine ⟨trivial, (callsIn_wide.2 (HA.out _)).mono ?_⟩
    rintro e w2 ⟨rfl, hb2⟩
    have HB2 := Lib.hid (HB1.out.trans (hb2.mono HB1.out.size))
    have HBr2 := Lib.hid (HBr1.out.below hb2 HBr1.out.lt)
    clear hb2
    gi_wp2_with fail
    refine ⟨trivial, (callsIn_wide.2 (HA.out _)).mono ?_⟩
    rintro e w3 ⟨rfl, hb3⟩
    have HB3 := Lib.hid (HB2.out.trans (hb3.mono HB2.out.size))
    have HBr3 := Lib.hid (HBr2.out.below hb3 HBr2.out.lt)
    obtain ⟨lr, r0, rf0⟩ := HBr3.out.one
    clear hb3
    gi_wp2
    have bF := HBr3.out.set1 (.bool true)
    obtain ⟨-, q0, -⟩ := bF.one
    refine ⟨.bool true, ?_, rfl, ?_⟩
    · simp [results, Tryz.results9, go_sem, q0]
    · exact HB3.out.setCell (p := ⟨w.heap.size + 1, 0, none⟩) (by simp only; omega) _
  · obtain ⟨g, n, k, rfl, rfl, rfl, hT, hSi, hl, hk⟩ := hfit rfl
    have HSi := Lib.hid hSi
    have HT1 := Lib.hid hT
    have HK := Lib.hid hk
    clear hfit hT hSi hk
    gi_wp2_with fail
    refine ⟨trivial, (callsIn_wide.2 (HA.out _)).mono ?_⟩
    rintro e w2 ⟨rfl, hb2⟩
    have HB2 := Lib.hid (HB1.out.trans (hb2.mono HB1.out.size))
    have HBs2 := Lib.hid (HBs1.out.below hb2 HBs1.out.lt)
    have HBr2 := Lib.hid (HBr1.out.below hb2 HBr1.out.lt)
    have HT2 := Lib.hid (HT1.out.below hb2)
    clear hb2 HB1 HBs1 HBr1 HT1
    gi_wp2_with fail
    have hb3 : Below w2.heap.size w2 ((((w2.alloc (.cells #[.int .i64 3] 3)).alloc (.cells #[.int .i64 0] 3)).alloc (.cells #[.bool false] 4)).alloc (.cells #[.int .i64 0] 3)) := ((((Below.refl _ _).alloc (Nat.le_refl _) _).alloc (by simp) _).alloc (by simp; omega) _).alloc (by simp; omega) _
    have c1 : Blk ((((w2.alloc (.cells #[.int .i64 3] 3)).alloc (.cells #[.int .i64 0] 3)).alloc (.cells #[.bool false] 4)).alloc (.cells #[.int .i64 0] 3)) w2.heap.size 3 #[.int .i64 3] := (((Blk.new _ _ _).alloc _).alloc _).alloc _
    have c2 : Blk ((((w2.alloc (.cells #[.int .i64 3] 3)).alloc (.cells #[.int .i64 0] 3)).alloc (.cells #[.bool false] 4)).alloc (.cells #[.int .i64 0] 3)) (w2.heap.size + 1) 3 #[.int .i64 0] := ((blk_new_at (by simp)).alloc _).alloc _
    have c3 : Blk ((((w2.alloc (.cells #[.int .i64 3] 3)).alloc (.cells #[.int .i64 0] 3)).alloc (.cells #[.bool false] 4)).alloc (.cells #[.int .i64 0] 3)) (w2.heap.size + 1 + 1) 4 #[.bool false] := (blk_new_at (by simp)).alloc _
    have c4 : Blk ((((w2.alloc (.cells #[.int .i64 3] 3)).alloc (.cells #[.int .i64 0] 3)).alloc (.cells #[.bool false] 4)).alloc (.cells #[.int .i64 0] 3)) (w2.heap.size + 1 + 1 + 1) 3 #[.int .i64 0] := blk_new_at (by simp)
    have HI0 := Lib.hid (show LpI w2 T k [] (fun j => w2.heap.size ≤ j ∧ j < w2.heap.size + 4) ((((w2.alloc (.cells #[.int .i64 3] 3)).alloc (.cells #[.int .i64 0] 3)).alloc (.cells #[.bool false] 4)).alloc (.cells #[.int .i64 0] 3)) from ⟨fun _ => Iff.rfl, hb3, 3, 0, false, c1, c2, c3, c4, LpSt.begin_ T k⟩)
    have hz3 : ((((w2.alloc (.cells #[.int .i64 3] 3)).alloc (.cells #[.int .i64 0] 3)).alloc (.cells #[.bool false] 4)).alloc (.cells #[.int .i64 0] 3)).heap.size = w2.heap.size + 4 := by simp
    have HZ3 := Lib.hid hz3
    clear hb3 c1 c2 c3 c4 hz3
    generalize (((w2.alloc (.cells #[.int .i64 3] 3)).alloc (.cells #[.int .i64 0] 3)).alloc (.cells #[.bool false] 4)).alloc (.cells #[.int .i64 0] 3) = W3 at *
    refine ⟨trivial, (callsIn_wide.2 (callsIn_wide.1 (wsteps_any Fence.wide 8 trivial rfl (some ⟨g, 0, none⟩) (k : Int) W3))).mono ?_⟩
    rintro e w4 ⟨rfl, rfl⟩
    have hb4 : Below W3.heap.size W3 ((W3.alloc (.cells #[.pointer (some ⟨g, 0, none⟩)] 26)).alloc (.cells #[.int .i64 (k : Int)] 3)) := ((Below.refl _ _).alloc (Nat.le_refl _) _).alloc (by simp) _
    have bx : Blk ((W3.alloc (.cells #[.pointer (some ⟨g, 0, none⟩)] 26)).alloc (.cells #[.int .i64 (k : Int)] 3)) W3.heap.size 26 #[.pointer (some ⟨g, 0, none⟩)] := (Blk.new _ _ _).alloc _
    have bv : Blk ((W3.alloc (.cells #[.pointer (some ⟨g, 0, none⟩)] 26)).alloc (.cells #[.int .i64 (k : Int)] 3)) (W3.heap.size + 1) 3 #[.int .i64 (k : Int)] := blk_new_at (by simp)
    have HI4 := Lib.hid (lpI_stable _ _ _ _ HI0.out (hb4.mono (by rw [HZ3.out]; omega)) (fun j hj => hb4.block j (by rw [HZ3.out]; omega)))
    have Hbx := Lib.hid bx
    have Hbv := Lib.hid bv
    clear hb4 bx bv HI0
    gi_wp2_with fail
    have HZ4 := Lib.hid (show ((W3.alloc (.cells #[.pointer (some ⟨g, 0, none⟩)] 26)).alloc (.cells #[.int .i64 (k : Int)] 3)).heap.size = W3.heap.size + 2 by simp)
    generalize (W3.alloc (.cells #[.pointer (some ⟨g, 0, none⟩)] 26)).alloc (.cells #[.int .i64 (k : Int)] 3) = W4 at *
    refine wpIn_rangeFunc_sepO rfl (by omega) (gf := 58) (lb := #[.pointer (some ⟨W3.heap.size, 0, none⟩), .pointer (some ⟨W3.heap.size + 1, 0, none⟩)]) rfl trivial (enters_of Tryz.func58 (by kernel_rfl) rfl)
      (steps1_sepO (w := w2) (m := 8) (Bt := W3.heap.size) (Bc := W3.heap.size + 1) HSi.out HT2.out HK.out) (fun W hW => ⟨(hW.cell (p := ⟨W3.heap.size, 0, none⟩) Hbx.out.lt).trans (Hbx.out.cell 0), (hW.cell (p := ⟨W3.heap.size + 1, 0, none⟩) Hbv.out.lt).trans (Hbv.out.cell 0), Nat.lt_of_lt_of_le Hbx.out.lt hW.size, Nat.lt_of_lt_of_le Hbv.out.lt hW.size⟩) (fun _ h => h.elim) HI4.out.2.1 (fun _ => rfl)
      (LpI w2 T k) (fun _ _ _ _ => False) lpI_stable (fun _ _ _ _ _ h => h.elim) (fun j => w2.heap.size ≤ j ∧ j < w2.heap.size + 4) (fun j hj => ⟨hj.1, by rw [HZ4.out, HZ3.out]; omega, fun h => h⟩) HI4.out ?_ ?_ ?_
    · intro l pre x C W hl hl2 hI hCb hlen hok
      obtain ⟨s', R'⟩ := hok
      obtain ⟨s, R, hsl, e1, e2, e3, e4, e5, e6, hcase⟩ := loop_next HSi.out HK.out R'
      have HI1 := Lib.hid (lpI_stable _ _ _ _ hI ((Below.refl _ _).alloc (by have := hI.2.1.size; omega) (.cells #[.int .u8 x.letter, .int .i64 x.corner, .int .i64 x.loops, .int .i64 x.length] 55)) (fun j hj => Below.heap_alloc _ _ _ (hCb j hj).2))
      have HR' := Lib.hid R'
      have HR := Lib.hid R
      have hLW := hl2
      clear hI R' R HI4
      obtain ⟨xl, xc, xo, xn⟩ := x
      simp only at e1 e2 e3 e4 e5 hcase HI1
      have He := Lib.hid (And.intro e1 e4)
      have Hsl := Lib.hid hsl
      have Hcase := Lib.hid hcase
      clear e1 e4 hsl
      unfold encS
      gi_wp2
      refine ⟨(Kept.refl _ _).alloc _, HI1.out, ?_⟩
      intro W2 hk2 hI2 hCb2 hz2
      have bs : Blk W2 W.heap.size 55 #[.int .u8 xl, .int .i64 xc, .int .i64 xo, .int .i64 xn] := blk_same (Blk.new W _ _) (hk2.block W.heap.size (by simp) (by omega))
      obtain ⟨ls, s0, s1, s2, s3, -⟩ := four bs
      obtain ⟨hCi, hBI, len, loops, over, c1, c2, c3, c4, hLp⟩ := hI2
      obtain ⟨p1, p2, p3⟩ := hLp s HR.out
      have hov : over = false := by cases over with
        | false => rfl
        | true => exact absurd (p1.1 rfl) Hsl.out
      subst hov
      have hlo := p2 rfl
      rw [← He.out.2] at hlo
      subst hlo
      rw [← He.out.1] at p3
      have HCi := Lib.hid hCi
      have HBI := Lib.hid hBI
      have HC1 := Lib.hid c1
      have HC2 := Lib.hid c2
      have HC3 := Lib.hid c3
      have HC4 := Lib.hid c4
      obtain ⟨m1, y1, f1⟩ := c1.one
      obtain ⟨m2, y2, f2⟩ := c2.one
      obtain ⟨m3, y3, f3⟩ := c3.one
      obtain ⟨m4, y4, f4⟩ := c4.one
      have fin : ∀ (len' loops' : Int) (over' : Bool) (Y : World), Kept C W2 Y → Blk Y w2.heap.size 3 #[.int .i64 len'] → Blk Y (w2.heap.size + 1) 3 #[.int .i64 loops'] → Blk Y (w2.heap.size + 1 + 1) 4 #[.bool over'] → Blk Y (w2.heap.size + 1 + 1 + 1) 3 #[.int .i64 ((pre.length : Int) + 1)] →
          ((over' = true ↔ s'.loop = []) ∧ (over' = false → loops' = s'.wait.length) ∧ (len' = 0 ∨ len' = s'.loop.length)) → Kept C W2 Y ∧ ∃ C', Anew C C' W2 Y ∧ LpI w2 T k (pre ++ [⟨xl, xc, xo, xn⟩]) C' Y := fun len' loops' over' Y hK k1 k2 k3 k4 hh => by
        refine ⟨hK, C, fun j hj => .inl hj, HCi.out, HBI.out.trans (hK.below (fun j hj => ((HCi.out j).1 hj).1) (by omega)), len', loops', over', k1, k2, k3, ?_, LpSt.of HR'.out hh⟩
        have : ((pre ++ [(⟨xl, xc, xo, xn⟩ : WStep)]).length : Int) = (pre.length : Int) + 1 := by simp
        rw [this]
        exact k4
      have Fin := Lib.hid fin
      have hW4 : w2.heap.size + 1 + 1 + 1 < W.heap.size := (hCb _ ((hCi (w2.heap.size + 1 + 1 + 1)).2 (by omega))).2
      have hn1 : W.heap.size ≠ w2.heap.size + 1 + 1 + 1 := by omega
      have hn2 : W.heap.size ≠ w2.heap.size + 1 + 1 := by omega
      have hn3 : W.heap.size ≠ w2.heap.size + 1 := by omega
      have hn4 : W.heap.size ≠ w2.heap.size := by omega
      have hpl : (pre.length : Int) + 1 ≤ 40 := by omega
      have hxn3 : ¬ (xn : Int) < 3 := by omega
      have hxn0 : (xn : Int) ≤ 120 := by omega
      have hxo0 : (xo : Int) ≤ 120 := by omega
      clear hCi hBI c1 c2 c3 c4 hLp p1 p2 fin bs hk2 hCb2 hz2 HI1 hCb hlen hl hl2 hLW hcase
      have hcase := Hcase.out
      clear Hcase
      rcases p3 with p3 | p3
      all_goals subst p3
      all_goals rcases hcase with ⟨q1, q2, q3, q4⟩ | ⟨q1 | q1, q2, q3, q4⟩ | ⟨q1, q2, q3, q4⟩ | ⟨q1, q2, q3⟩
      all_goals subst q1
      · have Q := Lib.hid (And.intro q2 (And.intro q3 q4))
        clear q2 q3 q4
        gi_wp2
        refine Fin.out ((xn : Int) + 1) (xo : Int) false _ ?_ ?_ ?_ ?_ ?_ ⟨⟨fun h => (by cases h), fun h => absurd h Q.out.2.2⟩, fun _ => by rw [Q.out.2.1], .inr (by rw [Q.out.1]; push_cast; rfl)⟩
        · repeat (first | with_reducible exact Kept.refl _ _ | with_reducible refine Kept.setCell ?_ (.inl ((HCi.out _).2 (by simp only; omega))) _)
        · repeat (first | with_reducible exact HC1.out | with_reducible apply Blk.set1 | with_reducible refine Blk.far ?_ (by simp only; omega) _)
        · repeat (first | with_reducible exact HC2.out | with_reducible apply Blk.set1 | with_reducible refine Blk.far ?_ (by simp only; omega) _)
        · repeat (first | with_reducible exact HC3.out | with_reducible apply Blk.set1 | with_reducible refine Blk.far ?_ (by simp only; omega) _)
        · repeat (first | with_reducible exact HC4.out | with_reducible apply Blk.set1 | with_reducible refine Blk.far ?_ (by simp only; omega) _)
      · have Q := Lib.hid (And.intro q2 (And.intro q3 q4))
        clear q2 q3 q4
        gi_wp2
        refine Fin.out ((xn : Int) - 1) (xo : Int) false _ ?_ ?_ ?_ ?_ ?_ ⟨⟨fun h => (by cases h), fun h => absurd h Q.out.2.2⟩, fun _ => by rw [Q.out.2.1], .inr (by have := Q.out.1; omega)⟩
        · repeat (first | with_reducible exact Kept.refl _ _ | with_reducible refine Kept.setCell ?_ (.inl ((HCi.out _).2 (by simp only; omega))) _)
        · repeat (first | with_reducible exact HC1.out | with_reducible apply Blk.set1 | with_reducible refine Blk.far ?_ (by simp only; omega) _)
        · repeat (first | with_reducible exact HC2.out | with_reducible apply Blk.set1 | with_reducible refine Blk.far ?_ (by simp only; omega) _)
        · repeat (first | with_reducible exact HC3.out | with_reducible apply Blk.set1 | with_reducible refine Blk.far ?_ (by simp only; omega) _)
        · repeat (first | with_reducible exact HC4.out | with_reducible apply Blk.set1 | with_reducible refine Blk.far ?_ (by simp only; omega) _)
      · have Q := Lib.hid (And.intro q2 (And.intro q3 q4))
        clear q2 q3 q4
        gi_wp2
        refine Fin.out ((xn : Int) - 1) (xo : Int) false _ ?_ ?_ ?_ ?_ ?_ ⟨⟨fun h => (by cases h), fun h => absurd h Q.out.2.2⟩, fun _ => by rw [Q.out.2.1], .inr (by have := Q.out.1; omega)⟩
        · repeat (first | with_reducible exact Kept.refl _ _ | with_reducible refine Kept.setCell ?_ (.inl ((HCi.out _).2 (by simp only; omega))) _)
        · repeat (first | with_reducible exact HC1.out | with_reducible apply Blk.set1 | with_reducible refine Blk.far ?_ (by simp only; omega) _)
        · repeat (first | with_reducible exact HC2.out | with_reducible apply Blk.set1 | with_reducible refine Blk.far ?_ (by simp only; omega) _)
        · repeat (first | with_reducible exact HC3.out | with_reducible apply Blk.set1 | with_reducible refine Blk.far ?_ (by simp only; omega) _)
        · repeat (first | with_reducible exact HC4.out | with_reducible apply Blk.set1 | with_reducible refine Blk.far ?_ (by simp only; omega) _)
      · subst q2
        have Q := Lib.hid (And.intro q3 q4)
        clear q3 q4
        by_cases hx : xo = 0
        · subst hx
          push_cast at y2 s2 ⊢
          gi_wp2
          refine Fin.out 0 (-1) true _ ?_ ?_ ?_ ?_ ?_ ⟨⟨fun _ => Q.out.1 (by first | rfl | trivial), fun _ => rfl⟩, fun h => (by cases h), .inl rfl⟩
          · repeat (first | with_reducible exact Kept.refl _ _ | with_reducible refine Kept.setCell ?_ (.inl ((HCi.out _).2 (by simp only; omega))) _)
          · repeat (first | with_reducible exact HC1.out | with_reducible apply Blk.set1 | with_reducible refine Blk.far ?_ (by simp only; omega) _)
          · repeat (first | with_reducible exact HC2.out | with_reducible apply Blk.set1 | with_reducible refine Blk.far ?_ (by simp only; omega) _)
          · repeat (first | with_reducible exact HC3.out | with_reducible apply Blk.set1 | with_reducible refine Blk.far ?_ (by simp only; omega) _)
          · repeat (first | with_reducible exact HC4.out | with_reducible apply Blk.set1 | with_reducible refine Blk.far ?_ (by simp only; omega) _)
        · have hx2 : ((xo : Int) == 0) = false := by simp; omega
          have HX := Lib.hid hx
          clear hx
          gi_wp2
          refine Fin.out 0 ((xo : Int) - 1) false _ ?_ ?_ ?_ ?_ ?_ ⟨⟨fun h => (by cases h), fun h => absurd h (Q.out.2 HX.out).1⟩, fun _ => by have := (Q.out.2 HX.out).2; omega, .inl rfl⟩
          · repeat (first | with_reducible exact Kept.refl _ _ | with_reducible refine Kept.setCell ?_ (.inl ((HCi.out _).2 (by simp only; omega))) _)
          · repeat (first | with_reducible exact HC1.out | with_reducible apply Blk.set1 | with_reducible refine Blk.far ?_ (by simp only; omega) _)
          · repeat (first | with_reducible exact HC2.out | with_reducible apply Blk.set1 | with_reducible refine Blk.far ?_ (by simp only; omega) _)
          · repeat (first | with_reducible exact HC3.out | with_reducible apply Blk.set1 | with_reducible refine Blk.far ?_ (by simp only; omega) _)
          · repeat (first | with_reducible exact HC4.out | with_reducible apply Blk.set1 | with_reducible refine Blk.far ?_ (by simp only; omega) _)
      · have Q := Lib.hid (And.intro q2 q3)
        clear q2 q3
        gi_wp2
        refine Fin.out 0 ((xo : Int) + 1) false _ ?_ ?_ ?_ ?_ ?_ ⟨⟨fun h => (by cases h), fun h => absurd h Q.out.1⟩, fun _ => by rw [Q.out.2]; push_cast; rfl, .inl rfl⟩
        · repeat (first | with_reducible exact Kept.refl _ _ | with_reducible refine Kept.setCell ?_ (.inl ((HCi.out _).2 (by simp only; omega))) _)
        · repeat (first | with_reducible exact HC1.out | with_reducible apply Blk.set1 | with_reducible refine Blk.far ?_ (by simp only; omega) _)
        · repeat (first | with_reducible exact HC2.out | with_reducible apply Blk.set1 | with_reducible refine Blk.far ?_ (by simp only; omega) _)
        · repeat (first | with_reducible exact HC3.out | with_reducible apply Blk.set1 | with_reducible refine Blk.far ?_ (by simp only; omega) _)
        · repeat (first | with_reducible exact HC4.out | with_reducible apply Blk.set1 | with_reducible refine Blk.far ?_ (by simp only; omega) _)
      · have Q := Lib.hid (And.intro q2 (And.intro q3 q4))
        clear q2 q3 q4
        gi_wp2
        refine Fin.out ((xn : Int) + 1) (xo : Int) false _ ?_ ?_ ?_ ?_ ?_ ⟨⟨fun h => (by cases h), fun h => absurd h Q.out.2.2⟩, fun _ => by rw [Q.out.2.1], .inr (by rw [Q.out.1]; push_cast; rfl)⟩
        · repeat (first | with_reducible exact Kept.refl _ _ | with_reducible refine Kept.setCell ?_ (.inl ((HCi.out _).2 (by simp only; omega))) _)
        · repeat (first | with_reducible exact HC1.out | with_reducible apply Blk.set1 | with_reducible refine Blk.far ?_ (by simp only; omega) _)
        · repeat (first | with_reducible exact HC2.out | with_reducible apply Blk.set1 | with_reducible refine Blk.far ?_ (by simp only; omega) _)
        · repeat (first | with_reducible exact HC3.out | with_reducible apply Blk.set1 | with_reducible refine Blk.far ?_ (by simp only; omega) _)
        · repeat (first | with_reducible exact HC4.out | with_reducible apply Blk.set1 | with_reducible refine Blk.far ?_ (by simp only; omega) _)
      · have Q := Lib.hid (And.intro q2 (And.intro q3 q4))
        clear q2 q3 q4
        gi_wp2
        refine Fin.out ((xn : Int) - 1) (xo : Int) false _ ?_ ?_ ?_ ?_ ?_ ⟨⟨fun h => (by cases h), fun h => absurd h Q.out.2.2⟩, fun _ => by rw [Q.out.2.1], .inr (by have := Q.out.1; omega)⟩
        · repeat (first | with_reducible exact Kept.refl _ _ | with_reducible refine Kept.setCell ?_ (.inl ((HCi.out _).2 (by simp only; omega))) _)
        · repeat (first | with_reducible exact HC1.out | with_reducible apply Blk.set1 | with_reducible refine Blk.far ?_ (by simp only; omega) _)
        · repeat (first | with_reducible exact HC2.out | with_reducible apply Blk.set1 | with_reducible refine Blk.far ?_ (by simp only; omega) _)
        · repeat (first | with_reducible exact HC3.out | with_reducible apply Blk.set1 | with_reducible refine Blk.far ?_ (by simp only; omega) _)
        · repeat (first | with_reducible exact HC4.out | with_reducible apply Blk.set1 | with_reducible refine Blk.far ?_ (by simp only; omega) _)
      · have Q := Lib.hid (And.intro q2 (And.intro q3 q4))
        clear q2 q3 q4
        gi_wp2
        refine Fin.out ((xn : Int) - 1) (xo : Int) false _ ?_ ?_ ?_ ?_ ?_ ⟨⟨fun h => (by cases h), fun h => absurd h Q.out.2.2⟩, fun _ => by rw [Q.out.2.1], .inr (by have := Q.out.1; omega)⟩
        · repeat (first | with_reducible exact Kept.refl _ _ | with_reducible refine Kept.setCell ?_ (.inl ((HCi.out _).2 (by simp only; omega))) _)
        · repeat (first | with_reducible exact HC1.out | with_reducible apply Blk.set1 | with_reducible refine Blk.far ?_ (by simp only; omega) _)
        · repeat (first | with_reducible exact HC2.out | with_reducible apply Blk.set1 | with_reducible refine Blk.far ?_ (by simp only; omega) _)
        · repeat (first | with_reducible exact HC3.out | with_reducible apply Blk.set1 | with_reducible refine Blk.far ?_ (by simp only; omega) _)
        · repeat (first | with_reducible exact HC4.out | with_reducible apply Blk.set1 | with_reducible refine Blk.far ?_ (by simp only; omega) _)
      · subst q2
        have Q := Lib.hid (And.intro q3 q4)
        clear q3 q4
        by_cases hx : xo = 0
        · subst hx
          push_cast at y2 s2 ⊢
          gi_wp2
          refine Fin.out 0 (-1) true _ ?_ ?_ ?_ ?_ ?_ ⟨⟨fun _ => Q.out.1 (by first | rfl | trivial), fun _ => rfl⟩, fun h => (by cases h), .inl rfl⟩
          · repeat (first | with_reducible exact Kept.refl _ _ | with_reducible refine Kept.setCell ?_ (.inl ((HCi.out _).2 (by simp only; omega))) _)
          · repeat (first | with_reducible exact HC1.out | with_reducible apply Blk.set1 | with_reducible refine Blk.far ?_ (by simp only; omega) _)
          · repeat (first | with_reducible exact HC2.out | with_reducible apply Blk.set1 | with_reducible refine Blk.far ?_ (by simp only; omega) _)
          · repeat (first | with_reducible exact HC3.out | with_reducible apply Blk.set1 | with_reducible refine Blk.far ?_ (by simp only; omega) _)
          · repeat (first | with_reducible exact HC4.out | with_reducible apply Blk.set1 | with_reducible refine Blk.far ?_ (by simp only; omega) _)
        · have hx2 : ((xo : Int) == 0) = false := by simp; omega
          have HX := Lib.hid hx
          clear hx
          gi_wp2
          refine Fin.out 0 ((xo : Int) - 1) false _ ?_ ?_ ?_ ?_ ?_ ⟨⟨fun h => (by cases h), fun h => absurd h (Q.out.2 HX.out).1⟩, fun _ => by have := (Q.out.2 HX.out).2; omega, .inl rfl⟩
          · repeat (first | with_reducible exact Kept.refl _ _ | with_reducible refine Kept.setCell ?_ (.inl ((HCi.out _).2 (by simp only; omega))) _)
          · repeat (first | with_reducible exact HC1.out | with_reducible apply Blk.set1 | with_reducible refine Blk.far ?_ (by simp only; omega) _)
          · repeat (first | with_reducible exact HC2.out | with_reducible apply Blk.set1 | with_reducible refine Blk.far ?_ (by simp only; omega) _)
          · repeat (first | with_reducible exact HC3.out | with_reducible apply Blk.set1 | with_reducible refine Blk.far ?_ (by simp only; omega) _)
          · repeat (first | with_reducible exact HC4.out | with_reducible apply Blk.set1 | with_reducible refine Blk.far ?_ (by simp only; omega) _)
      · have Q := Lib.hid (And.intro q2 q3)
        clear q2 q3
        gi_wp2
        refine Fin.out 0 ((xo : Int) + 1) false _ ?_ ?_ ?_ ?_ ?_ ⟨⟨fun h => (by cases h), fun h => absurd h Q.out.1⟩, fun _ => by rw [Q.out.2]; push_cast; rfl, .inl rfl⟩
        · repeat (first | with_reducible exact Kept.refl _ _ | with_reducible refine Kept.setCell ?_ (.inl ((HCi.out _).2 (by simp only; omega))) _)
        · repeat (first | with_reducible exact HC1.out | with_reducible apply Blk.set1 | with_reducible refine Blk.far ?_ (by simp only; omega) _)
        · repeat (first | with_reducible exact HC2.out | with_reducible apply Blk.set1 | with_reducible refine Blk.far ?_ (by simp only; omega) _)
        · repeat (first | with_reducible exact HC3.out | with_reducible apply Blk.set1 | with_reducible refine Blk.far ?_ (by simp only; omega) _)
        · repeat (first | with_reducible exact HC4.out | with_reducible apply Blk.set1 | with_reducible refine Blk.far ?_ (by simp only; omega) _)
    · intro D xs C W hD hnD hfin hI hK
      subst hfin
      obtain ⟨s, Xs, R, hsl, -, -⟩ := walk_end HSi.out HK.out
      obtain ⟨hCi, hBI, len, loops, over, c1, c2, c3, c4, hLp⟩ := hI
      have hov : over = true := (hLp s R).1.2 hsl
      subst hov
      have hwl := walk_len HSi.out HK.out
      have HB5 := Lib.hid (HB2.out.trans (hBI.mono HB2.out.size))
      have HBs5 := Lib.hid (HBs2.out.below hBI HBs2.out.lt)
      have HBr5 := Lib.hid (HBr2.out.below hBI HBr2.out.lt)
      have hDr : D ≠ w.heap.size + 1 := fun e => by
        have h1 := HBr2.out.lt
        have h2 := HZ4.out
        have h3 := HZ3.out
        omega
      have hwD : w.heap.size ≤ D := by
        have h1 := HBr2.out.lt
        have h2 := HZ4.out
        have h3 := HZ3.out
        omega
      obtain ⟨ls, s0, -, s1, -⟩ := HBs5.out.two
      obtain ⟨lr, r0, rf0⟩ := HBr5.out.one
      obtain ⟨m3, y3, -⟩ := c3.one
      obtain ⟨m4, y4, -⟩ := c4.one
      obtain ⟨m, hm⟩ : ∃ m, (stepsM T k).length = m := ⟨_, rfl⟩
      obtain ⟨F, hF⟩ : ∃ F, T.length = F := ⟨_, rfl⟩
      rw [hm] at y4 hwl
      rw [hF] at s1 hl hwl ⊢
      have HKx := Lib.hid hK
      have HDr := Lib.hid hDr
      have hq : ((m : Int) == (F : Int) - 1) = true := by simp; omega
      clear hCi hBI c1 c2 c3 c4 hLp R hsl hK hm hF hnD hDr HI4 Hbx Hbv HBs2 HBr2 hD
      gi_wp2
      have bF := HBr5.out.set1 (.bool true)
      refine ⟨by simp, .inl ⟨_, _, rfl, run_takeDeferred ((Below.heap_setCell _ _ _ D (by simpa using HDr.out)).trans HKx.out), ?_⟩⟩
      obtain ⟨-, q0, -⟩ := (blk_same bF (World.putObj_heap_other (o := .deferred none) (fun e => HDr.out e.symm)) : Blk ((W.setCell ⟨w.heap.size + 1, 0, none⟩ (.bool true)).putObj D (.deferred none)) _ _ _).one
      refine ⟨.bool true, ?_, rfl, ?_⟩
      · simp [results, Tryz.results9, go_sem, q0]
      · exact (HB5.out.setCell (p := ⟨w.heap.size + 1, 0, none⟩) (by simp only; omega) _).trans (putObj_below hwD)
    · intro D cd pre C W _ _ _ h _
      exact h.elim
end Go.Proofs.YtghlnknncahkgaaGreat
