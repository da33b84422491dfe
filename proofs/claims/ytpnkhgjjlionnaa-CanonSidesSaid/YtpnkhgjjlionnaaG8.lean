/-
  Texts joined by program, what the law uses alone: CnSd ArgS.
-/
import Derived.ProofKit
import Derived.WideShapes
import Derived.OpenShut
import Derived.Deep.Slices
import Derived.Lib.SmallJoins
import Derived.Test.YtpnkhgjjlionnaaG7
import Derived.Test.YtpnkhgjjlionnaaG1
namespace Go.Proofs.Ytpnkhgjjlionnaa
open Go.RowKit Go.Maps

theorem below_onS {n : Nat} {w W W' : World} (h : Below n w W) (hs : n ≤ W.heap.size) (hb : Below W.heap.size W W') : Below n w W' := h.trans (hb.mono hs)
/-- soup.Join of two surfaces. -/
theorem join2_any {N N' : Int} {T T' : List Tr} {v v' : Value} {W : World} {b : Nat} (hS : Surf N T) (hS' : Surf N' T') (hb : Blk W b 24 #[.int .i64 N, v, .int .i64 N', v']) (h1 : TrisRd W v T) (h2 : TrisRd W v' T') (hN : N + N' ≤ 4096) (hl : T.length + T'.length ≤ 1000) :
    Calls Try.prog 10 #[.slice (some ⟨b, 0, none⟩) 2 2] W fun e w' => ∃ a c, e = .returned (.tuple #[.agg #[.int .i64 (N + N'), .slice a (T.length + T'.length) c], .int .i64 0]) ∧ TrisRd w' (.slice a (T.length + T'.length) c) (T ++ T'.map (shT N)) ∧ Below W.heap.size W w' := by
  have hL : (T ++ T'.map (shT N)).length = T.length + T'.length := by simp
  refine (join_any _ _ W (soups_two hb h1 h2) (by simp) (fun x hx => ?_) (by rw [join_two]; exact hN) (by rw [join_two, hL]; omega)).mono ?_
  · simp only [List.mem_cons, List.not_mem_nil, or_false] at hx
    rcases hx with rfl | rfl
    · exact surf_fits hS
    · exact surf_fits hS'
  · rintro e w' ⟨vT, rfl, hr, hB⟩
    rw [join_two] at hr ⊢
    simp only [hL] at hr ⊢
    obtain ⟨a, c, rfl⟩ := ownsRow_slice hr
    refine ⟨a, c, rfl, ?_, hB⟩
    have := TrisRd.of_row (by rw [hL]; exact hr)
    exact this
set_option maxRecDepth 100000 in
set_option maxHeartbeats 40000000 in
theorem canonSides_walk (N1 : Int) (v1 : Value) (T1 : List Tr) (N2 : Int) (v2 : Value) (T2 : List Tr) (w : World) (h1 : TrisRd w v1 T1) (h2 : TrisRd w v2 T2) :
    Calls Try.prog 3 #[.agg #[.int .i64 N1, v1], .agg #[.int .i64 N2, v2]] w fun en w' => en = .returned (.bool true) ∧ Below w.heap.size w w' := by
  have hb1 := (Blk.new w 24 #[.int .i64 N1, v1]).alloc (.cells #[.int .i64 N2, v2] 24)
  have hb2 : Blk ((w.alloc (.cells #[.int .i64 N1, v1] 24)).alloc (.cells #[.int .i64 N2, v2] 24)) (w.heap.size + 1) 24 #[.int .i64 N2, v2] := blk_new_at (by simp)
  have hB0 : Below w.heap.size w ((w.alloc (.cells #[.int .i64 N1, v1] 24)).alloc (.cells #[.int .i64 N2, v2] 24)) := ((Below.refl _ _).alloc (Nat.le_refl _) _).alloc (by simp) _
  have HR1 := Lib.hid (fun (W : World) (hW : Below w.heap.size w W) => h1.below hW)
  have HR2 := Lib.hid (fun (W : World) (hW : Below w.heap.size w W) => h2.below hW)
  obtain ⟨a1, c1, rfl, -⟩ := h1
  obtain ⟨a2, c2, rfl, -⟩ := h2
  obtain ⟨F1, hF1⟩ : ∃ F, T1.length = F := ⟨_, rfl⟩
  obtain ⟨F2, hF2⟩ : ∃ F, T2.length = F := ⟨_, rfl⟩
  have HL := Lib.hid (And.intro hF1 hF2)
  rw [hF1] at hB0 hb1 hb2 HR1 ⊢
  rw [hF2] at hB0 hb1 hb2 HR2 ⊢
  have HB0 := Lib.hid hB0
  have K0 := Lib.hid hb1
  have K1 := Lib.hid hb2
  clear hB0 hb1 hb2 hF1 hF2
  go_enter Try.func3, Try.ntmps3
  go_wp2_with fail
  refine (awake46_any _).mono ?_
  rintro en w1 ⟨rfl, hb⟩
  have HB1 := Lib.hid (HB0.out.trans (hb.mono HB0.out.size))
  have K01 := Lib.hid (K0.out.below hb K0.out.lt)
  have K11 := Lib.hid (K1.out.below hb K1.out.lt)
  clear hb K0 K1 HB0
  obtain ⟨l0, x0, -, x1, -⟩ := K01.out.two
  obtain ⟨l1, y0, -, y1, -⟩ := K11.out.two
  by_cases f1 : 12 < F1
  · have d1 : (12 : Int) < (F1 : Int) := by omega
    go_wp2
    go_ret
    exact ⟨rfl, HB1.out⟩
  have d1 : ¬ (12 : Int) < (F1 : Int) := by omega
  by_cases f2 : 12 < F2
  · have d2 : (12 : Int) < (F2 : Int) := by omega
    go_wp2
    go_ret
    exact ⟨rfl, HB1.out⟩
  have d2 : ¬ (12 : Int) < (F2 : Int) := by omega
  have HLd := Lib.hid (laid10_any N1 _ T1 w1 (HR1.out _ HB1.out))
  go_wp2_with fail
  refine HLd.out.mono ?_
  rintro en w2 ⟨hres, hb⟩
  have HB2 := Lib.hid (HB1.out.trans (hb.mono HB1.out.size))
  have K02 := Lib.hid (K01.out.below hb K01.out.lt)
  have K12 := Lib.hid (K11.out.below hb K11.out.lt)
  clear hb K01 K11 HB1 x0 x1 l0 y0 y1 l1 HLd
  obtain ⟨l0, x0, -, x1, -⟩ := K02.out.two
  obtain ⟨l1, y0, -, y1, -⟩ := K12.out.two
  rcases hres with rfl | ⟨g0, rfl, -, hS1, -, n1⟩
  · go_wp2
    go_ret
    exact ⟨rfl, HB2.out⟩
  have HS1 := Lib.hid hS1
  clear hS1
  have HLd := Lib.hid (laid10_any N2 _ T2 w2 (HR2.out _ HB2.out))
  go_wp2_with fail
  refine HLd.out.mono ?_
  rintro en w3 ⟨hres, hb⟩
  have HB3 := Lib.hid (HB2.out.trans (hb.mono HB2.out.size))
  have K03 := Lib.hid (K02.out.below hb K02.out.lt)
  have K13 := Lib.hid (K12.out.below hb K12.out.lt)
  clear hb K02 K12 HB2 x0 x1 l0 y0 y1 l1 HLd
  obtain ⟨l0, x0, -, x1, -⟩ := K03.out.two
  obtain ⟨l1, y0, -, y1, -⟩ := K13.out.two
  rcases hres with rfl | ⟨g2, rfl, -, hS2, -, n2⟩
  · go_wp2
    go_ret
    exact ⟨rfl, HB3.out⟩
  have HS2 := Lib.hid hS2
  clear hS2
  have HU := Lib.hid (show F1 ≤ 12 ∧ F2 ≤ 12 ∧ N1 ≤ 60 ∧ N2 ≤ 60 from ⟨by omega, by omega, n1, n2⟩)
  clear f1 f2 n1 n2
  go_upto_region 5 with fail
  have hA := (Below.refl w3.heap.size w3).alloc (Nat.le_refl _) (.cells #[.int .i64 N1, .slice a1 F1 c1, .int .i64 N2, .slice a2 F2 c2] 24)
  have hBq := HB3.out.alloc HB3.out.size (.cells #[.int .i64 N1, .slice a1 F1 c1, .int .i64 N2, .slice a2 F2 c2] 24)
  have HJ := Lib.hid (join2_any HS1.out HS2.out (Blk.new w3 24 #[.int .i64 N1, .slice a1 F1 c1, .int .i64 N2, .slice a2 F2 c2]) (HR1.out _ hBq) (HR2.out _ hBq) (by have := HU.out; omega) (by rw [HL.out.1, HL.out.2]; have := HU.out; omega))
  rw [HL.out.1, HL.out.2] at HJ
  have HA := Lib.hid (And.intro hA hBq)
  clear hA hBq
  go_wp2_with fail
  refine HJ.out.mono ?_
  rintro en w4 ⟨aX, cX, rfl, hX, hb⟩
  have hA4 := (Below.refl w4.heap.size w4).alloc (Nat.le_refl _) (.cells #[.int .i64 (N1 + N2), .slice aX (F1 + F2) cX] 24)
  have hb34 := HA.out.1.trans (hb.mono HA.out.1.size)
  have HB5 := Lib.hid ((HB3.out.trans (hb34.mono HB3.out.size)).trans (hA4.mono (Nat.le_trans HB3.out.size hb34.size)))
  have K05 := Lib.hid ((K03.out.below hb34 K03.out.lt).below hA4 (K03.out.below hb34 K03.out.lt).lt)
  have K15 := Lib.hid ((K13.out.below hb34 K13.out.lt).below hA4 (K13.out.below hb34 K13.out.lt).lt)
  have KX5 := Lib.hid (Blk.new w4 24 #[.int .i64 (N1 + N2), .slice aX (F1 + F2) cX])
  have HX5 := Lib.hid (hX.below hA4)
  clear hA4 hb hb34 hX K03 K13 HB3 x0 x1 l0 y0 y1 l1 HJ HA
  go_upto_region 6 with fail
  generalize w4.alloc (.cells #[.int .i64 (N1 + N2), .slice aX (F1 + F2) cX] 24) = w5 at *
  generalize w4.heap.size = qx at *
  obtain ⟨l0, x0, -, x1, -⟩ := K05.out.two
  obtain ⟨l1, y0, -, y1, -⟩ := K15.out.two
  have hA := (Below.refl w5.heap.size w5).alloc (Nat.le_refl _) (.cells #[.int .i64 N2, .slice a2 F2 c2, .int .i64 N1, .slice a1 F1 c1] 24)
  have hBq := HB5.out.alloc HB5.out.size (.cells #[.int .i64 N2, .slice a2 F2 c2, .int .i64 N1, .slice a1 F1 c1] 24)
  have HJ := Lib.hid (join2_any HS2.out HS1.out (Blk.new w5 24 #[.int .i64 N2, .slice a2 F2 c2, .int .i64 N1, .slice a1 F1 c1]) (HR2.out _ hBq) (HR1.out _ hBq) (by have := HU.out; omega) (by rw [HL.out.1, HL.out.2]; have := HU.out; omega))
  rw [HL.out.1, HL.out.2] at HJ
  have HA := Lib.hid (And.intro hA hBq)
  clear hA hBq
  go_wp2_with fail
  refine HJ.out.mono ?_
  rintro en w6 ⟨aY, cY, rfl, hY, hb⟩
  have hA4 := (Below.refl w6.heap.size w6).alloc (Nat.le_refl _) (.cells #[.int .i64 (N2 + N1), .slice aY (F2 + F1) cY] 24)
  have hb34 := HA.out.1.trans (hb.mono HA.out.1.size)
  have HB7 := Lib.hid ((HB5.out.trans (hb34.mono HB5.out.size)).trans (hA4.mono (Nat.le_trans HB5.out.size hb34.size)))
  have K07 := Lib.hid ((K05.out.below hb34 K05.out.lt).below hA4 (K05.out.below hb34 K05.out.lt).lt)
  have K17 := Lib.hid ((K15.out.below hb34 K15.out.lt).below hA4 (K15.out.below hb34 K15.out.lt).lt)
  have KX7 := Lib.hid ((KX5.out.below hb34 KX5.out.lt).below hA4 (KX5.out.below hb34 KX5.out.lt).lt)
  have KY7 := Lib.hid (Blk.new w6 24 #[.int .i64 (N2 + N1), .slice aY (F2 + F1) cY])
  have HX7 := Lib.hid ((HX5.out.below hb34).below hA4)
  have HY7 := Lib.hid (hY.below hA4)
  clear hA4 hb hb34 hY HX5 KX5 K05 K15 HB5 x0 x1 l0 y0 y1 l1 HJ HA
  go_upto_region 7 with fail
  generalize w6.alloc (.cells #[.int .i64 (N2 + N1), .slice aY (F2 + F1) cY] 24) = w7 at *
  generalize w6.heap.size = qy at *
  obtain ⟨la, xa0, -, xa1, -⟩ := K07.out.two
  obtain ⟨lb, xb0, -, xb1, -⟩ := K17.out.two
  obtain ⟨lx, xx0, -, xx1, -⟩ := KX7.out.two
  obtain ⟨ly, xy0, -, xy1, -⟩ := KY7.out.two
  as_aux_lemma =>
    have hs0 : w7.heap.size ≤ w7.drew.heap.size := Nat.le_refl _
    have HBk0 := Lib.hid (below_d (Below.refl w7.heap.size w7))
    refine wp_region_U 27 (fun w' => w'.cell? ⟨w.heap.size, 0, none⟩ = some (.int .i64 N1) ∧ w'.cell? ⟨w.heap.size, 1, none⟩ = some (.slice a1 F1 c1) ∧ w'.cell? ⟨w.heap.size + 1, 0, none⟩ = some (.int .i64 N2) ∧ w'.cell? ⟨w.heap.size + 1, 1, none⟩ = some (.slice a2 F2 c2) ∧ w'.cell? ⟨qx, 0, none⟩ = some (.int .i64 (N1 + N2)) ∧ w'.cell? ⟨qx, 1, none⟩ = some (.slice aX (F1 + F2) cX) ∧ w'.cell? ⟨qy, 0, none⟩ = some (.int .i64 (N2 + N1)) ∧ w'.cell? ⟨qy, 1, none⟩ = some (.slice aY (F2 + F1) cY)) (by kernel_rfl) ⟨xa0, xa1, xb0, xb1, xx0, xx1, xy0, xy1⟩ ?_
    change AtU _ _ _ _ _ _ 28 (Array.replicate 28 false) _ _
    refine AtU.take (i := 0) (v := ?_) rfl (by kernel_rfl) (by kernel_rfl) (fun _ _ _ h => h) (by rfl) ?_ ?_
    rotate_left 1
    · intro w9 hSw; (try dsimp only at hSw); go_simp; try with_reducible rfl
    try simp only [Act.put, List.setIfInBounds_toArray, List.set_cons_zero, List.set_cons_succ]
    refine AtU.take (i := 1) (v := ?_) rfl (by kernel_rfl) (by kernel_rfl) (fun _ _ _ h => h) (by rfl) ?_ ?_
    rotate_left 1
    · intro w9 hSw; (try dsimp only at hSw); go_simp; try with_reducible rfl
    try simp only [Act.put, List.setIfInBounds_toArray, List.set_cons_zero, List.set_cons_succ]
    refine AtU.take (i := 2) (v := ?_) rfl (by kernel_rfl) (by kernel_rfl) (fun _ _ _ h => h) (by rfl) ?_ ?_
    rotate_left 1
    · intro w9 hSw; (try dsimp only at hSw); go_simp; try with_reducible rfl
    try simp only [Act.put, List.setIfInBounds_toArray, List.set_cons_zero, List.set_cons_succ]
    refine AtU.take (i := 3) (v := ?_) rfl (by kernel_rfl) (by kernel_rfl) (fun _ _ _ h => h) (by rfl) ?_ ?_
    rotate_left 1
    · intro w9 hSw; (try dsimp only at hSw); go_simp; try with_reducible rfl
    try simp only [Act.put, List.setIfInBounds_toArray, List.set_cons_zero, List.set_cons_succ]
    refine AtU.take (i := 4) (v := ?_) rfl (by kernel_rfl) (by kernel_rfl) (fun _ _ _ h => h) (by rfl) ?_ ?_
    rotate_left 1
    · intro w9 hSw; (try dsimp only at hSw); go_simp; try with_reducible rfl
    try simp only [Act.put, List.setIfInBounds_toArray, List.set_cons_zero, List.set_cons_succ]
    as_aux_lemma =>
      refine AtU.take (i := 5) (v := ?_) rfl (by kernel_rfl) (by kernel_rfl) (fun _ _ _ h => h) (by rfl) ?_ ?_
      rotate_left 1
      · intro w9 hSw; (try dsimp only at hSw); go_simp; try with_reducible rfl
      try simp only [Act.put, List.setIfInBounds_toArray, List.set_cons_zero, List.set_cons_succ]
      refine AtU.take (i := 6) (v := ?_) rfl (by kernel_rfl) (by kernel_rfl) (fun _ _ _ h => h) (by rfl) ?_ ?_
      rotate_left 1
      · intro w9 hSw; (try dsimp only at hSw); go_simp; try with_reducible rfl
      try simp only [Act.put, List.setIfInBounds_toArray, List.set_cons_zero, List.set_cons_succ]
      refine AtU.take (i := 7) (v := ?_) rfl (by kernel_rfl) (by kernel_rfl) (fun _ _ _ h => h) (by rfl) ?_ ?_
      rotate_left 1
      · intro w9 hSw; (try dsimp only at hSw); go_simp; try with_reducible rfl
      try simp only [Act.put, List.setIfInBounds_toArray, List.set_cons_zero, List.set_cons_succ]
      refine AtU.take (i := 9) (v := ?_) rfl (by kernel_rfl) (by kernel_rfl) (fun _ _ _ h => h) (by rfl) ?_ ?_
      rotate_left 1
      · intro w9 hSw; (try dsimp only at hSw); go_simp; try with_reducible rfl
      try simp only [Act.put, List.setIfInBounds_toArray, List.set_cons_zero, List.set_cons_succ]
      as_aux_lemma =>
        refine AtU.take (i := 12) (v := ?_) rfl (by kernel_rfl) (by kernel_rfl) (fun _ _ _ h => h) (by rfl) ?_ ?_
        rotate_left 1
        · intro w9 hSw; (try dsimp only at hSw); go_simp; try with_reducible rfl
        try simp only [Act.put, List.setIfInBounds_toArray, List.set_cons_zero, List.set_cons_succ]
        refine AtU.take (i := 13) (v := ?_) rfl (by kernel_rfl) (by kernel_rfl) (fun _ _ _ h => h) (by rfl) ?_ ?_
        rotate_left 1
        · intro w9 hSw; (try dsimp only at hSw); go_simp; try with_reducible rfl
        try simp only [Act.put, List.setIfInBounds_toArray, List.set_cons_zero, List.set_cons_succ]
        as_aux_lemma =>
          refine AtU.step (i := 8) rfl (by kernel_rfl) (fun K hK => ?_)
          rw [if_pos (by rfl)]
          have HC := Lib.hid (mirror_any N1 (.slice a1 F1 c1) T1 w7.drew (HR1.out _ (below_onS HB7.out HB7.out.size HBk0.out)) (by rw [HL.out.1]; have := HU.out; omega))
          go_wp2_with (go_at_call 12; refine HC.out.mono ?_; rintro e9 v1 ⟨vA, rfl, hrA, hbk1⟩)
          obtain ⟨aA, cA, rfl⟩ := ownsRow_slice hrA
          have HTA := Lib.hid (TrisRd.of_row (T := T1.map mirT) (by rw [List.length_map]; exact hrA))
          have hs1 := Nat.le_trans hs0 hbk1.size
          have HBk1 := Lib.hid (below_onS HBk0.out HBk0.out.size hbk1)
          have xa0_ := (hbk1.cell (p := ⟨w.heap.size, 0, none⟩) (Nat.lt_of_lt_of_le la hs0)).trans xa0
          have xa1_ := (hbk1.cell (p := ⟨w.heap.size, 1, none⟩) (Nat.lt_of_lt_of_le la hs0)).trans xa1
          have xb0_ := (hbk1.cell (p := ⟨w.heap.size + 1, 0, none⟩) (Nat.lt_of_lt_of_le lb hs0)).trans xb0
          have xb1_ := (hbk1.cell (p := ⟨w.heap.size + 1, 1, none⟩) (Nat.lt_of_lt_of_le lb hs0)).trans xb1
          have xx0_ := (hbk1.cell (p := ⟨qx, 0, none⟩) (Nat.lt_of_lt_of_le lx hs0)).trans xx0
          have xx1_ := (hbk1.cell (p := ⟨qx, 1, none⟩) (Nat.lt_of_lt_of_le lx hs0)).trans xx1
          have xy0_ := (hbk1.cell (p := ⟨qy, 0, none⟩) (Nat.lt_of_lt_of_le ly hs0)).trans xy0
          have xy1_ := (hbk1.cell (p := ⟨qy, 1, none⟩) (Nat.lt_of_lt_of_le ly hs0)).trans xy1
          refine hK.out _ _ ⟨xa0_, xa1_, xb0_, xb1_, xx0_, xx1_, xy0_, xy1_⟩ ?_
          clear hK K
          try simp only [Act.put, List.setIfInBounds_toArray, List.set_cons_zero, List.set_cons_succ]
          clear xa0 xa1 xb0 xb1 xx0 xx1 xy0 xy1
          as_aux_lemma =>
            refine AtU.step (i := 10) rfl (by kernel_rfl) (fun K hK => ?_)
            rw [if_pos (by rfl)]
            have HC := Lib.hid (mirror_any N2 (.slice a2 F2 c2) T2 v1 (HR2.out _ (below_onS HB7.out HB7.out.size HBk1.out)) (by rw [HL.out.2]; have := HU.out; omega))
            go_wp2_with (go_at_call 12; refine HC.out.mono ?_; rintro e9 v2 ⟨vB, rfl, hrB, hbk2⟩)
            obtain ⟨aB, cB, rfl⟩ := ownsRow_slice hrB
            have HTB := Lib.hid (TrisRd.of_row (T := T2.map mirT) (by rw [List.length_map]; exact hrB))
            have HTA2 := Lib.hid (HTA.out.below hbk2)
            have hs2 := Nat.le_trans hs1 hbk2.size
            have HBk2 := Lib.hid (below_onS HBk1.out HBk1.out.size hbk2)
            have xa0__ := (hbk2.cell (p := ⟨w.heap.size, 0, none⟩) (Nat.lt_of_lt_of_le la hs1)).trans xa0_
            have xa1__ := (hbk2.cell (p := ⟨w.heap.size, 1, none⟩) (Nat.lt_of_lt_of_le la hs1)).trans xa1_
            have xb0__ := (hbk2.cell (p := ⟨w.heap.size + 1, 0, none⟩) (Nat.lt_of_lt_of_le lb hs1)).trans xb0_
            have xb1__ := (hbk2.cell (p := ⟨w.heap.size + 1, 1, none⟩) (Nat.lt_of_lt_of_le lb hs1)).trans xb1_
            have xx0__ := (hbk2.cell (p := ⟨qx, 0, none⟩) (Nat.lt_of_lt_of_le lx hs1)).trans xx0_
            have xx1__ := (hbk2.cell (p := ⟨qx, 1, none⟩) (Nat.lt_of_lt_of_le lx hs1)).trans xx1_
            have xy0__ := (hbk2.cell (p := ⟨qy, 0, none⟩) (Nat.lt_of_lt_of_le ly hs1)).trans xy0_
            have xy1__ := (hbk2.cell (p := ⟨qy, 1, none⟩) (Nat.lt_of_lt_of_le ly hs1)).trans xy1_
            refine hK.out _ _ ⟨xa0__, xa1__, xb0__, xb1__, xx0__, xx1__, xy0__, xy1__⟩ ?_
            clear hK K
            try simp only [Act.put, List.setIfInBounds_toArray, List.set_cons_zero, List.set_cons_succ]
            clear xa0_ xa1_ xb0_ xb1_ xx0_ xx1_ xy0_ xy1_
            as_aux_lemma =>
              refine AtU.step (i := 11) rfl (by kernel_rfl) (fun K hK => ?_)
              rw [if_pos (by rfl)]
              have HC := Lib.hid (equal_anyG N1 N2 (.slice aA T1.length cA) (.slice aB T2.length cB) (T1.map mirT) (T2.map mirT) v2 HTA2.out HTB.out (by rw [List.length_map, HL.out.1]; have := HU.out; omega) (by rw [List.length_map, HL.out.2]; have := HU.out; omega) (.inl HU.out.2.2.1) (.inl HU.out.2.2.2))
              go_wp2_with (go_at_call 11; refine HC.out.mono ?_; rintro e9 v3 ⟨r1, rfl, hr1, hbk3⟩)
              rw [formEq_mir HS1.out HS2.out] at hr1
              have HQ1 := Lib.hid hr1
              have hs3 := Nat.le_trans hs2 hbk3.size
              have HBk3 := Lib.hid (below_onS HBk2.out HBk2.out.size hbk3)
              have xa0___ := (hbk3.cell (p := ⟨w.heap.size, 0, none⟩) (Nat.lt_of_lt_of_le la hs2)).trans xa0__
              have xa1___ := (hbk3.cell (p := ⟨w.heap.size, 1, none⟩) (Nat.lt_of_lt_of_le la hs2)).trans xa1__
              have xb0___ := (hbk3.cell (p := ⟨w.heap.size + 1, 0, none⟩) (Nat.lt_of_lt_of_le lb hs2)).trans xb0__
              have xb1___ := (hbk3.cell (p := ⟨w.heap.size + 1, 1, none⟩) (Nat.lt_of_lt_of_le lb hs2)).trans xb1__
              have xx0___ := (hbk3.cell (p := ⟨qx, 0, none⟩) (Nat.lt_of_lt_of_le lx hs2)).trans xx0__
              have xx1___ := (hbk3.cell (p := ⟨qx, 1, none⟩) (Nat.lt_of_lt_of_le lx hs2)).trans xx1__
              have xy0___ := (hbk3.cell (p := ⟨qy, 0, none⟩) (Nat.lt_of_lt_of_le ly hs2)).trans xy0__
              have xy1___ := (hbk3.cell (p := ⟨qy, 1, none⟩) (Nat.lt_of_lt_of_le ly hs2)).trans xy1__
              refine hK.out _ _ ⟨xa0___, xa1___, xb0___, xb1___, xx0___, xx1___, xy0___, xy1___⟩ ?_
              clear hK K
              try simp only [Act.put, List.setIfInBounds_toArray, List.set_cons_zero, List.set_cons_succ]
              clear xa0__ xa1__ xb0__ xb1__ xx0__ xx1__ xy0__ xy1__
              as_aux_lemma =>
                refine AtU.step (i := 14) rfl (by kernel_rfl) (fun K hK => ?_)
                rw [if_pos (by rfl)]
                have HC := Lib.hid (equal_anyG N1 N2 (.slice a1 F1 c1) (.slice a2 F2 c2) T1 T2 v3 (HR1.out _ (below_onS HB7.out HB7.out.size HBk3.out)) (HR2.out _ (below_onS HB7.out HB7.out.size HBk3.out)) (by rw [HL.out.1]; have := HU.out; omega) (by rw [HL.out.2]; have := HU.out; omega) (.inl HU.out.2.2.1) (.inl HU.out.2.2.2))
                go_wp2_with (go_at_call 11; refine HC.out.mono ?_; rintro e9 v4 ⟨r2, rfl, hr2, hbk4⟩)
                obtain rfl : r1 = r2 := by have := HQ1.out.trans hr2.symm; cases r1 <;> cases r2 <;> simp_all
                have hs4 := Nat.le_trans hs3 hbk4.size
                have HBk4 := Lib.hid (below_onS HBk3.out HBk3.out.size hbk4)
                have xa0____ := (hbk4.cell (p := ⟨w.heap.size, 0, none⟩) (Nat.lt_of_lt_of_le la hs3)).trans xa0___
                have xa1____ := (hbk4.cell (p := ⟨w.heap.size, 1, none⟩) (Nat.lt_of_lt_of_le la hs3)).trans xa1___
                have xb0____ := (hbk4.cell (p := ⟨w.heap.size + 1, 0, none⟩) (Nat.lt_of_lt_of_le lb hs3)).trans xb0___
                have xb1____ := (hbk4.cell (p := ⟨w.heap.size + 1, 1, none⟩) (Nat.lt_of_lt_of_le lb hs3)).trans xb1___
                have xx0____ := (hbk4.cell (p := ⟨qx, 0, none⟩) (Nat.lt_of_lt_of_le lx hs3)).trans xx0___
                have xx1____ := (hbk4.cell (p := ⟨qx, 1, none⟩) (Nat.lt_of_lt_of_le lx hs3)).trans xx1___
                have xy0____ := (hbk4.cell (p := ⟨qy, 0, none⟩) (Nat.lt_of_lt_of_le ly hs3)).trans xy0___
                have xy1____ := (hbk4.cell (p := ⟨qy, 1, none⟩) (Nat.lt_of_lt_of_le ly hs3)).trans xy1___
                refine hK.out _ _ ⟨xa0____, xa1____, xb0____, xb1____, xx0____, xx1____, xy0____, xy1____⟩ ?_
                clear hK K
                try simp only [Act.put, List.setIfInBounds_toArray, List.set_cons_zero, List.set_cons_succ]
                clear xa0___ xa1___ xb0___ xb1___ xx0___ xx1___ xy0___ xy1___
                have hrr : (r1 == r1) = true := by cases r1 <;> rfl
                as_aux_lemma =>
                  refine AtU.take (i := 15) (v := ?_) rfl (by kernel_rfl) (by kernel_rfl) (fun _ _ _ h => h) (by rfl) ?_ ?_
                  rotate_left 1
                  · intro w9 hSw; (try dsimp only at hSw); go_simp; try with_reducible rfl
                  try simp only [Act.put, List.setIfInBounds_toArray, List.set_cons_zero, List.set_cons_succ]
                  refine AtU.take (i := 16) (v := ?_) rfl (by kernel_rfl) (by kernel_rfl) (fun _ _ _ h => h) (by rfl) ?_ ?_
                  rotate_left 1
                  · intro w9 hSw; (try dsimp only at hSw); go_simp; try with_reducible rfl
                  try simp only [Act.put, List.setIfInBounds_toArray, List.set_cons_zero, List.set_cons_succ]
                  as_aux_lemma =>
                    refine AtU.take (i := 17) (v := ?_) rfl (by kernel_rfl) (by kernel_rfl) (fun _ _ _ h => h) (by rfl) ?_ ?_
                    rotate_left 1
                    · intro w9 hSw; (try dsimp only at hSw); go_simp; try with_reducible rfl
                    try simp only [Act.put, List.setIfInBounds_toArray, List.set_cons_zero, List.set_cons_succ]
                    refine AtU.take (i := 18) (v := ?_) rfl (by kernel_rfl) (by kernel_rfl) (fun _ _ _ h => h) (by rfl) ?_ ?_
                    rotate_left 1
                    · intro w9 hSw; (try dsimp only at hSw); go_simp; try with_reducible rfl
                    try simp only [Act.put, List.setIfInBounds_toArray, List.set_cons_zero, List.set_cons_succ]
                    as_aux_lemma =>
                      refine AtU.take (i := 19) (v := ?_) rfl (by kernel_rfl) (by kernel_rfl) (fun _ _ _ h => h) (by rfl) ?_ ?_
                      rotate_left 1
                      · intro w9 hSw; (try dsimp only at hSw); go_simp; try with_reducible rfl
                      try simp only [Act.put, List.setIfInBounds_toArray, List.set_cons_zero, List.set_cons_succ]
                      as_aux_lemma =>
                        refine AtU.step (i := 20) rfl (by kernel_rfl) (fun K hK => ?_)
                        rw [if_pos (by rfl)]
                        have HC := Lib.hid (equal_anyG (N1 + N2) (N2 + N1) (.slice aX (F1 + F2) cX) (.slice aY (F2 + F1) cY) (T1 ++ T2.map (shT N1)) (T2 ++ T1.map (shT N2)) v4 (HX7.out.below HBk4.out) (HY7.out.below HBk4.out) (by rw [List.length_append, List.length_map, HL.out.1, HL.out.2]; have := HU.out; omega) (by rw [List.length_append, List.length_map, HL.out.1, HL.out.2]; have := HU.out; omega) (.inr (by rw [List.length_append, List.length_map, HL.out.1, HL.out.2]; have := HU.out; omega)) (.inr (by rw [List.length_append, List.length_map, HL.out.1, HL.out.2]; have := HU.out; omega)))
                        go_wp2_with (go_at_call 11; refine HC.out.mono ?_; rintro e9 v5 ⟨r3, rfl, hr3, hbk5⟩)
                        obtain rfl : r3 = true := hr3.2 (formEq_join HS1.out HS2.out (by have := HU.out; omega) (by rw [HL.out.1, HL.out.2]; have := HU.out; omega))
                        have hs5 := Nat.le_trans hs4 hbk5.size
                        have HBk5 := Lib.hid (below_onS HBk4.out HBk4.out.size hbk5)
                        have xa0_____ := (hbk5.cell (p := ⟨w.heap.size, 0, none⟩) (Nat.lt_of_lt_of_le la hs4)).trans xa0____
                        have xa1_____ := (hbk5.cell (p := ⟨w.heap.size, 1, none⟩) (Nat.lt_of_lt_of_le la hs4)).trans xa1____
                        have xb0_____ := (hbk5.cell (p := ⟨w.heap.size + 1, 0, none⟩) (Nat.lt_of_lt_of_le lb hs4)).trans xb0____
                        have xb1_____ := (hbk5.cell (p := ⟨w.heap.size + 1, 1, none⟩) (Nat.lt_of_lt_of_le lb hs4)).trans xb1____
                        have xx0_____ := (hbk5.cell (p := ⟨qx, 0, none⟩) (Nat.lt_of_lt_of_le lx hs4)).trans xx0____
                        have xx1_____ := (hbk5.cell (p := ⟨qx, 1, none⟩) (Nat.lt_of_lt_of_le lx hs4)).trans xx1____
                        have xy0_____ := (hbk5.cell (p := ⟨qy, 0, none⟩) (Nat.lt_of_lt_of_le ly hs4)).trans xy0____
                        have xy1_____ := (hbk5.cell (p := ⟨qy, 1, none⟩) (Nat.lt_of_lt_of_le ly hs4)).trans xy1____
                        refine hK.out _ _ ⟨xa0_____, xa1_____, xb0_____, xb1_____, xx0_____, xx1_____, xy0_____, xy1_____⟩ ?_
                        clear hK K
                        try simp only [Act.put, List.setIfInBounds_toArray, List.set_cons_zero, List.set_cons_succ]
                        clear xa0____ xa1____ xb0____ xb1____ xx0____ xx1____ xy0____ xy1____
                        as_aux_lemma =>
                          refine AtU.take (i := 21) (v := ?_) rfl (by kernel_rfl) (by kernel_rfl) (fun _ _ _ h => h) (by rfl) ?_ ?_
                          rotate_left 1
                          · intro w9 hSw; (try dsimp only at hSw); go_simp; try with_reducible rfl
                          try simp only [Act.put, List.setIfInBounds_toArray, List.set_cons_zero, List.set_cons_succ]
                          refine AtU.take (i := 22) (v := ?_) rfl (by kernel_rfl) (by kernel_rfl) (fun _ _ _ h => h) (by rfl) ?_ ?_
                          rotate_left 1
                          · intro w9 hSw; (try dsimp only at hSw); go_simp; try with_reducible rfl
                          try simp only [Act.put, List.setIfInBounds_toArray, List.set_cons_zero, List.set_cons_succ]
                          as_aux_lemma =>
                            refine AtU.take (i := 23) (v := ?_) rfl (by kernel_rfl) (by kernel_rfl) (fun _ _ _ h => h) (by rfl) ?_ ?_
                            rotate_left 1
                            · intro w9 hSw; (try dsimp only at hSw); go_simp; try with_reducible rfl
                            try simp only [Act.put, List.setIfInBounds_toArray, List.set_cons_zero, List.set_cons_succ]
                            refine AtU.take (i := 24) (v := ?_) rfl (by kernel_rfl) (by kernel_rfl) (fun _ _ _ h => h) (by rfl) ?_ ?_
                            rotate_left 1
                            · intro w9 hSw; (try dsimp only at hSw); go_simp; try with_reducible rfl
                            try simp only [Act.put, List.setIfInBounds_toArray, List.set_cons_zero, List.set_cons_succ]
                            as_aux_lemma =>
                              refine AtU.step (i := 25) rfl (by kernel_rfl) (fun K hK => ?_)
                              rw [if_pos (by rfl)]
                              have HC := Lib.hid (equal_anyG N1 N1 (.slice a1 F1 c1) (.slice a1 F1 c1) T1 T1 v5 (HR1.out _ (below_onS HB7.out HB7.out.size HBk5.out)) (HR1.out _ (below_onS HB7.out HB7.out.size HBk5.out)) (by rw [HL.out.1]; have := HU.out; omega) (by rw [HL.out.1]; have := HU.out; omega) (.inl HU.out.2.2.1) (.inl HU.out.2.2.1))
                              go_wp2_with (go_at_call 11; refine HC.out.mono ?_; rintro e9 v6 ⟨r4, rfl, hr4, hbk6⟩)
                              obtain rfl : r4 = true := hr4.2 (formEq_self HS1.out)
                              have hs6 := Nat.le_trans hs5 hbk6.size
                              have HBk6 := Lib.hid (below_onS HBk5.out HBk5.out.size hbk6)
                              have xa0______ := (hbk6.cell (p := ⟨w.heap.size, 0, none⟩) (Nat.lt_of_lt_of_le la hs5)).trans xa0_____
                              have xa1______ := (hbk6.cell (p := ⟨w.heap.size, 1, none⟩) (Nat.lt_of_lt_of_le la hs5)).trans xa1_____
                              have xb0______ := (hbk6.cell (p := ⟨w.heap.size + 1, 0, none⟩) (Nat.lt_of_lt_of_le lb hs5)).trans xb0_____
                              have xb1______ := (hbk6.cell (p := ⟨w.heap.size + 1, 1, none⟩) (Nat.lt_of_lt_of_le lb hs5)).trans xb1_____
                              have xx0______ := (hbk6.cell (p := ⟨qx, 0, none⟩) (Nat.lt_of_lt_of_le lx hs5)).trans xx0_____
                              have xx1______ := (hbk6.cell (p := ⟨qx, 1, none⟩) (Nat.lt_of_lt_of_le lx hs5)).trans xx1_____
                              have xy0______ := (hbk6.cell (p := ⟨qy, 0, none⟩) (Nat.lt_of_lt_of_le ly hs5)).trans xy0_____
                              have xy1______ := (hbk6.cell (p := ⟨qy, 1, none⟩) (Nat.lt_of_lt_of_le ly hs5)).trans xy1_____
                              refine hK.out _ _ ⟨xa0______, xa1______, xb0______, xb1______, xx0______, xx1______, xy0______, xy1______⟩ ?_
                              clear hK K
                              try simp only [Act.put, List.setIfInBounds_toArray, List.set_cons_zero, List.set_cons_succ]
                              clear xa0_____ xa1_____ xb0_____ xb1_____ xx0_____ xx1_____ xy0_____ xy1_____
                              refine AtU.take (i := 26) (v := ?_) rfl (by kernel_rfl) (by kernel_rfl) (fun _ _ _ h => h) (by rfl) ?_ ?_
                              rotate_left 1
                              · intro w9 hSw; (try dsimp only at hSw); go_simp; first | done | with_reducible rfl | rfl
                              try simp only [Act.put, List.setIfInBounds_toArray, List.set_cons_zero, List.set_cons_succ]
                              as_aux_lemma =>
                                refine AtU.last (i := 27) rfl (by kernel_rfl) (fun K hK => ?_)
                                go_simp
                                refine hK.out _ _ ?_
                                clear hK K
                                have HBz := Lib.hid (below_onS HB7.out HB7.out.size HBk6.out)
                                go_wp2
                                go_ret
                                exact ⟨rfl, HBz.out⟩
end Go.Proofs.Ytpnkhgjjlionnaa
namespace Go.Proofs.Ytpnkhgjjlionnaa
open Go.RowKit

theorem three_cells {P : Program} {H : Type} {enc : TypeId × Value → H} {w : World} {base : Nat} {spare : Nat → Bool} {held : Bool} {t u : TypeId} {m : Nat} {cs : List Value} {x : DataW H × List MemPlace}
    (ht : P.underlying t = some (.array 3 u)) (hu : P.underlying u = some (.int .i64)) (hc : P.cellsOf u = 1) (hl : cs.length = 3) (h : DataW.trod enc P w base spare held m t cs = some x) :
    ∃ a b c : Int, cs = [.int .i64 a, .int .i64 b, .int .i64 c] := by
  obtain ⟨xs, n, -, -, -, hx, hel⟩ := DataW.trod_array ht h
  rw [hc] at hel
  match cs, hl with
  | [v0, v1, v2], _ =>
    have key : ∀ i v, i < 3 → ([v0, v1, v2].drop (i * 1)).take 1 = [v] → ∃ z : Int, v = .int .i64 z := by
      intro i v hi hv
      have e := hel i hi
      rw [hv] at e
      obtain ⟨y, hy⟩ : ∃ y, xs[i]? = some y := ⟨xs[i]'(by omega), List.getElem?_eq_getElem _⟩
      rw [hy] at e
      obtain ⟨z, hz, -, -⟩ := DataW.trod_int hu e
      exact ⟨z, by simpa using hz⟩
    obtain ⟨a, rfl⟩ := key 0 v0 (by omega) rfl
    obtain ⟨b, rfl⟩ := key 1 v1 (by omega) rfl
    obtain ⟨c, rfl⟩ := key 2 v2 (by omega) rfl
    exact ⟨a, b, c, rfl⟩
theorem tris_open {H : Type} {enc : TypeId × Value → H} {w : World} {base : Nat} {spare : Nat → Bool} {held : Bool} {m : Nat} {v : Value} {x : DataW H × List MemPlace}
    (h : DataW.trod enc Try.prog w base spare held m 22 [v] = some x) : ∃ T, TrisRd w v T := by
  rcases Go.Deep.open_slice Try.underlying22 h with ⟨e1, -⟩ | ⟨a, len, cap, q, n, D, Pl, e1, hb, hl, hm, hq, -, hall⟩
  · have e : v = .slice none 0 0 := by simpa using e1
    subst e
    exact ⟨[], none, 0, rfl, by simp, by decide, fun k x y z hk => by simp at hk⟩
  · have e : v = .slice (some a) len cap := by simpa using e1
    subst e
    have h3 : Try.prog.cellsOf 61 = 3 := by kernel_rfl
    have hlq : len ≤ q := by rw [hq]; split <;> omega
    have key : ∀ i, ∃ t : Tr, i < len → w.cell? (a.add (i * 3)) = some (.int .i64 t.1) ∧ w.cell? ((a.add (i * 3)).add 1) = some (.int .i64 t.2.1) ∧ w.cell? ((a.add (i * 3)).add 2) = some (.int .i64 t.2.2) := by
      intro i
      by_cases hi : i < len
      · obtain ⟨cs, hcs, htr⟩ := hall i (by omega)
        rw [h3] at hcs
        obtain ⟨-, hcl, hce⟩ := World.cells?_some hcs
        obtain ⟨x, y, z, rfl⟩ := three_cells Try.underlying61 Try.underlying3 (by kernel_rfl) hcl htr
        refine ⟨(x, y, z), fun _ => ⟨?_, hce 1 (by omega), hce 2 (by omega)⟩⟩
        have := hce 0 (by omega)
        have e0 : (a.add (i * 3)).add 0 = a.add (i * 3) := by simp [Addr.add]
        rw [e0] at this
        exact this
      · exact ⟨(0, 0, 0), fun h => absurd h hi⟩
    obtain ⟨f, hf⟩ := Classical.axiomOfChoice key
    refine ⟨(List.range len).map f, some a, cap, by simp, by simpa using hl, by unfold maxLen at hm; omega, fun k x y z hk => ?_⟩
    have hk' : k < len := by
      have := (List.getElem?_eq_some_iff.1 hk).1
      simpa using this
    rw [List.getElem?_map, List.getElem?_range hk'] at hk
    have hfk : f k = (x, y, z) := by simpa using hk
    obtain ⟨c0, c1, c2⟩ := hf k hk'
    rw [hfk] at c0 c1 c2
    obtain ⟨b, off, spot⟩ := a
    have hspot : spot = none := by simpa [Addr.add] using World.cell?_spot (hf 0 (by omega)).1
    subst hspot
    rw [Addr.add_lit] at c0
    rw [Addr.add_lit, Addr.add_lit] at c1 c2
    refine ⟨b, off, rfl, ?_, c0, c1, c2⟩
    rcases Nat.lt_or_ge b w.heap.size with hlt | hge
    · exact hlt
    · exfalso
      unfold World.cell? at c0
      simp [Array.getElem?_eq_none hge] at c0
set_option maxRecDepth 100000 in
theorem soup_open {H : Type} {enc : TypeId × Value → H} {w : World} {base : Nat} {spare : Nat → Bool} {held : Bool} {r : Go.Reach} {b0 : Nat} {v : Value} {d : DataW H} {p : List MemPlace}
    (hv : Value.okWide Try.prog w r b0 24 v) (h : DataW.Trod enc Try.prog w base spare held 24 v d p) :
    ∃ (N : Int) (vT : Value) (T : List Tr), v = .agg #[.int .i64 N, vT] ∧ TrisRd w vT T ∧ (Lit.int .i64 N).wf = true := by
  obtain ⟨v0, v1, y0, y1, n, rfl, -, -, h0, h1⟩ := Go.Joins.open_agg2 Try.underlying24 (by kernel_rfl) (by kernel_rfl) hv h
  obtain ⟨N, e0, -, hw⟩ := DataW.trod_int Try.underlying3 h0
  obtain ⟨T, hT⟩ := tris_open h1
  exact ⟨N, v1, T, by simpa using e0, hT, hw⟩
end Go.Proofs.Ytpnkhgjjlionnaa
