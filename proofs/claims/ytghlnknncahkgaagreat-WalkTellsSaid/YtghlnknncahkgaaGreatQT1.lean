/-
  gypsumlaw21.WalkTells returns true, by walking its text.
-/
import Derived.Test.YtghlnknncahkgaaGreatQ8
import Derived.Test.YtghlnknncahkgaaGreatQ9
import Derived.Test.YtghlnknncahkgaaGreatQ10
namespace Go.Proofs.YtghlnknncahkgaaGreat
open Go.RowKit Go.Maps Go.Shelf

set_option maxHeartbeats 1000000 in
/-- Out of range: told before the surface is looked at. -/
theorem check_far (g n : Nat) (T : List Tr) (w : World) (r : Int) (hT : Tab w g n T) (hr : r < 0 ∨ 3 * (T.length : Int) ≤ r) :
    Calls Tryz.prog 52 #[.pointer (some ⟨g, 0, none⟩), .int .i64 r] w fun e w' => e = .returned (.int .i64 2) ∧ Below w.heap.size w w' := by
  have H0 := Lib.hid (triangles_any g n T w hT.toTabS)
  have hl := hT.len
  obtain ⟨F, hF⟩ : ∃ F, T.length = F := ⟨_, rfl⟩
  rw [hF] at hl H0 hr
  clear hT hF
  by_cases h0 : r < 0
  · clear hr
    go_enter Tryz.func52, Tryz.ntmps52
    go_wp2
    go_ret
    exact ⟨rfl, Below.refl _ _⟩
  · have h3 : 3 * (F : Int) ≤ r := by omega
    clear hr
    go_enter Tryz.func52, Tryz.ntmps52
    go_wp2_with fail
    refine H0.out.mono ?_
    rintro e w0 ⟨rfl, rfl⟩
    go_wp2
    go_ret
    exact ⟨rfl, Below.refl _ _⟩
set_option maxRecDepth 100000 in
set_option maxHeartbeats 4000000 in
theorem walkTells_walk (N : Int) (v : Value) (T : List Tr) (r : Int) (w : World) (h : TrisRd w v T) :
    Calls Tryz.prog 5 #[.agg #[.int .i64 N, v], .int .i64 r] w fun e w' => e = .returned (.bool true) ∧ Below w.heap.size w w' := by
  have b1 := Blk.new w 24 #[.int .i64 N, v]
  have hB0 : Below w.heap.size w (w.alloc (.cells #[.int .i64 N, v] 24)) := (Below.refl _ _).alloc (Nat.le_refl _) _
  have HF := Lib.hid (fits21_any N v T _ (h.below hB0))
  have HTr := Lib.hid (fun (W : World) (hW : Below w.heap.size w W) => h.below hW)
  have HA := Lib.hid awake21_any
  obtain ⟨a, c, rfl, -, -, -⟩ := h
  have HB0 := Lib.hid hB0
  have Hb1 := Lib.hid b1
  obtain ⟨l0, x0, -, x1, -⟩ := b1.two
  clear b1 hB0
  go_enter Tryz.func5, Tryz.ntmps5
  go_wp2_with fail
  refine HF.out.mono ?_
  rintro e w1 ⟨p, b, rfl, hfit, hb1⟩
  have HS1 := Lib.hid (Hb1.out.below hb1 l0)
  have HB1 := Lib.hid (HB0.out.trans (hb1.mono HB0.out.size))
  clear x0 x1 l0 HF Hb1 HB0 hb1
  cases b
  · clear hfit
    go_wp2_with fail
    refine (HA.out _).mono ?_
    rintro e w2 ⟨rfl, hb2⟩
    have HB2 := Lib.hid (HB1.out.trans (hb2.mono HB1.out.size))
    clear hb2 HB1 HS1
    go_wp2_with fail
    refine (HA.out _).mono ?_
    rintro e w3 ⟨rfl, hb3⟩
    have HB3 := Lib.hid (HB2.out.trans (hb3.mono HB2.out.size))
    clear hb3 HB2
    go_wp2
    go_ret
    exact ⟨rfl, HB3.out⟩
  · obtain ⟨g, n, rfl, rfl, hT, hSu, hl⟩ := hfit rfl
    clear hfit
    go_wp2_with fail
    refine (HA.out _).mono ?_
    rintro e w2 ⟨rfl, hb2⟩
    have HB2 := Lib.hid (HB1.out.trans (hb2.mono HB1.out.size))
    have hS2 := HS1.out.below hb2 HS1.out.lt
    have HS2 := Lib.hid hS2
    have HTab := Lib.hid (hT.below hb2)
    have HSu := Lib.hid hSu
    clear hb2 HB1 HS1 hT hSu
    by_cases hrg : r < 0 ∨ 3 * (T.length : Int) ≤ r
    · have HWk := Lib.hid (walk_err (w := w2) (a := some ⟨g, 0, none⟩) (r := r) (z := 2) (by decide) (fun W hW => check_far g n T W r (HTab.out.below hW) hrg))
      obtain ⟨F, hF⟩ : ∃ F, T.length = F := ⟨_, rfl⟩
      rw [hF] at hl HS2 hrg ⊢
      clear hF hS2
      go_wp2_with fail
      refine HWk.out.mono ?_
      rintro e w3 ⟨rfl, hb3⟩
      have HB3 := Lib.hid (HB2.out.trans (hb3.mono HB2.out.size))
      have hS3 := HS2.out.below hb3 HS2.out.lt
      obtain ⟨l0, x0, -, x1, -⟩ := hS3.two
      clear hb3 HWk HB2 HS2 hS3
      by_cases h0 : r < 0
      · clear hrg
        go_wp2
        go_ret
        exact ⟨rfl, HB3.out.alloc HB3.out.size _⟩
      · have h3 : 3 * (F : Int) ≤ r := by omega
        clear hrg
        go_wp2
        go_ret
        exact ⟨rfl, HB3.out.alloc HB3.out.size _⟩
    · obtain ⟨k, rfl⟩ : ∃ k : Nat, r = k := ⟨r.toNat, by omega⟩
      have hk : k < 3 * T.length := by omega
      have HK := Lib.hid hk
      have HWk := Lib.hid (walk_both HSu.out HTab.out hl hk)
      have HSi := Lib.hid (fun (W : World) (hW : Below w.heap.size w W) => simple21_any n (.slice a T.length c) T W (HTr.out W hW) hl (by have := HSu.out.n1; omega))
      have HRf := Lib.hid (fun (W : World) (hs : Simp n T) (hW : Below w.heap.size w W) => ref21_any hs (HTr.out W hW) hk hl)
      have HSR := Lib.hid (simR_iff HSu.out)
      obtain ⟨F, hF⟩ : ∃ F, T.length = F := ⟨_, rfl⟩
      rw [hF] at hl HS2 hrg hk HSi HRf ⊢
      have HlF := Lib.hid hF
      have hk3 : (k : Int) < 3 * (F : Int) := by omega
      clear hF hS2 hrg HTr
      go_wp2_with fail
      refine HWk.out.mono ?_
      rintro e w3 hw
      rcases hw with ⟨hs, vV, vC, rfl, hV, hC, hb3⟩ | ⟨hs, rfl, hb3⟩
      · have HV := Lib.hid (IntsRd.of_row hV (by simp))
        have HC := Lib.hid (IntsRd.of_row (xs := (k : Int) :: (stepsM T k).map (·.corner)) hC (by simp))
        have HlC := Lib.hid (show (∀ xs, xs = (k : Int) :: (stepsM T k).map (·.corner) → xs.length ≤ 100000) ∧ (∀ xs, xs = (beginS T k).come ++ newV T (stepsM T k) → xs.length ≤ 100000) from ⟨fun xs e => by have h9 := walkC_len hs HK.out; unfold walkC at h9; rw [e, h9, HlF.out]; omega, fun xs e => by have h9 := walkV_len hs HK.out; unfold walkV at h9; rw [e, h9]; have := HSu.out.n1; omega⟩)
        obtain ⟨aV, cV, rfl⟩ := ownsRow_slice hV
        obtain ⟨aC, cC, rfl⟩ := ownsRow_slice hC
        generalize ((beginS T k).come ++ newV T (stepsM T k)).length = nV at *
        generalize (stepsM T k).length.succ = nC at *
        have HB3 := Lib.hid (HB2.out.trans (hb3.mono HB2.out.size))
        have hS3 := HS2.out.below hb3 HS2.out.lt
        have HS3 := Lib.hid hS3
        obtain ⟨l0, x0, -, x1, -⟩ := hS3.two
        have hb4 : Below w3.heap.size w3 (w3.alloc (.cells #[.string (wordS (stepsM T k)), .slice aV nV cV, .slice aC nC cC] 45)) := (Below.refl _ _).alloc (Nat.le_refl _) _
        have bt := Blk.new w3 45 #[.string (wordS (stepsM T k)), .slice aV nV cV, .slice aC nC cC]
        have HB4 := Lib.hid (HB3.out.trans (hb4.mono HB3.out.size))
        have HV4 := Lib.hid (HV.out.below hb4)
        have HC4 := Lib.hid (HC.out.below hb4)
        have HS4 := Lib.hid (HS3.out.below hb4 HS3.out.lt)
        have HSr := Lib.hid (HSR.out.2 hs)
        have Hs := Lib.hid hs
        have Hbt := Lib.hid bt
        clear hb3 HWk HB2 HS2 hS3 hV hC HV HC HB3 HS3 hb4 bt
        generalize hwd : wordS (stepsM T k) = wd at *
        have Hwd := Lib.hid hwd
        clear hwd hs
        go_wp2_with fail
        refine (HSi.out _ HB4.out).mono ?_
        rintro e w5 ⟨b, rfl, hbb, hb5⟩
        have hbt : b = true := hbb.2 HSr.out
        subst hbt
        have HB5 := Lib.hid (HB4.out.trans (hb5.mono HB4.out.size))
        have HV5 := Lib.hid (HV4.out.below hb5)
        have HC5 := Lib.hid (HC4.out.below hb5)
        have hS5 := HS4.out.below hb5 HS4.out.lt
        have hbt5 := Hbt.out.below hb5 Hbt.out.lt
        have HS5 := Lib.hid hS5
        have Hbt5 := Lib.hid hbt5
        clear l0 x0 x1 hbb hb5 HB4 HV4 HC4 HS4 Hbt
        obtain ⟨l0, x0, -, x1, -⟩ := hS5.two
        obtain ⟨lt, y0, -, y1, -, y2, -⟩ := hbt5.three
        clear hS5 hbt5
        go_wp2_with fail
        refine (HRf.out _ Hs.out HB5.out).mono ?_
        rintro e w6 ⟨uV, uC, uO, uE, rfl, hRw, hb6⟩
        rw [Hwd.out]
        have HUV := Lib.hid (IntsRd.of_row (hRw.get (l1 := [])) rfl)
        have HUC := Lib.hid (IntsRd.of_row (hRw.get (l1 := [_])) rfl)
        have oV := hRw.get (l1 := [])
        have oC := hRw.get (l1 := [_])
        have oO := hRw.get (l1 := [_, _])
        have oE := hRw.get (l1 := [_, _, _])
        obtain ⟨a1, c1, rfl⟩ := ownsRow_slice oV
        obtain ⟨a2, c2, rfl⟩ := ownsRow_slice oC
        obtain ⟨a3, c3, rfl⟩ := ownsRow_slice oO
        obtain ⟨a4, c4, rfl⟩ := ownsRow_slice oE
        clear oV oC oO oE hRw
        generalize ((k : Int) :: (stepsM T k).map (·.corner)) = lC at *
        generalize ((beginS T k).come ++ newV T (stepsM T k)) = lV at *
        generalize hnO : ((stepsM T k).map fun x => (x.loops : Int)).length = nO at *
        generalize hnE : ((stepsM T k).map fun x => (x.length : Int)).length = nE at *
        generalize hnV : lV.length = mV at *
        generalize hnC : lC.length = mC at *
        have HnV := Lib.hid hnV
        have HnC := Lib.hid hnC
        clear hnO hnE hnV hnC
        have HB6 := Lib.hid (HB5.out.trans (hb6.mono HB5.out.size))
        have hV6 := HV5.out.below hb6
        have hC6 := HC5.out.below hb6
        have hbt6 := Hbt5.out.below hb6 Hbt5.out.lt
        have hb7 : Below w6.heap.size w6 (w6.alloc (.cells #[.string wd, .slice a1 mV c1, .slice a2 mC c2, .slice a3 nO c3, .slice a4 nE c4] 49)) := (Below.refl _ _).alloc (Nat.le_refl _) _
        have HV7 := Lib.hid (hV6.below hb7)
        have HC7 := Lib.hid (hC6.below hb7)
        have HUV7 := Lib.hid (HUV.out.below hb7)
        have HUC7 := Lib.hid (HUC.out.below hb7)
        have HB7 := Lib.hid (HB6.out.trans (hb7.mono HB6.out.size))
        have br := Blk.new w6 49 #[.string wd, .slice a1 mV c1, .slice a2 mC c2, .slice a3 nO c3, .slice a4 nE c4]
        have Hbr := Lib.hid br
        have hbt7 := hbt6.below hb7 hbt6.lt
        have Hbt7 := Lib.hid hbt7
        clear x0 x1 y0 y1 y2 l0 lt
        obtain ⟨lt, y0, -, y1, -, y2, -⟩ := hbt6.three
        clear hb6 hV6 hC6 hbt6 hb7 HB6 HV5 HC5 HB5 HS5 Hbt5 HUV HUC br hbt7
        go_wp2_with fail
        refine (ints_any _ _ lV _ HV7.out HUV7.out (HlC.out.2 _ rfl)).mono ?_
        rintro e w8 ⟨rfl, hb8⟩
        have HB8 := Lib.hid (HB7.out.trans (hb8.mono HB7.out.size))
        have HC8 := Lib.hid (HC7.out.below hb8)
        have HUC8 := Lib.hid (HUC7.out.below hb8)
        have hbt8 := Hbt7.out.below hb8 Hbt7.out.lt
        have hbr8 := Hbr.out.below hb8 Hbr.out.lt
        clear y0 y1 y2 lt
        obtain ⟨lt, y0, -, y1, -, y2, -⟩ := hbt8.three
        obtain ⟨-, z0, -, z1, -, z2, -, z3, -, z4, -⟩ := five9 hbr8
        clear hb8 hbt8 hbr8
        go_wp2_with fail
        refine (ints_any _ _ lC _ HC8.out HUC8.out (HlC.out.1 _ rfl)).mono ?_
        rintro e w9 ⟨rfl, hb9⟩
        have HB9 := Lib.hid (HB8.out.trans (hb9.mono HB8.out.size))
        clear hb9 y0 y1 y2 z0 z1 z2 z3 z4
        go_wp2
        go_ret
        exact ⟨rfl, HB9.out⟩
      · have HB3 := Lib.hid (HB2.out.trans (hb3.mono HB2.out.size))
        have hS3 := HS2.out.below hb3 HS2.out.lt
        have HS3 := Lib.hid hS3
        obtain ⟨l0, x0, -, x1, -⟩ := hS3.two
        have hb4 : Below w3.heap.size w3 (w3.alloc (.cells #[.string ByteArray.empty, .slice none 0 0, .slice none 0 0] 45)) := (Below.refl _ _).alloc (Nat.le_refl _) _
        have bt := Blk.new w3 45 #[.string ByteArray.empty, .slice none 0 0, .slice none 0 0]
        have HB4 := Lib.hid (HB3.out.trans (hb4.mono HB3.out.size))
        have Hbt := Lib.hid bt
        have Hs := Lib.hid hs
        clear hb3 HWk HB2 HS2 hS3 HB3 HS3 hb4 bt hs
        go_wp2_with fail
        refine (HSi.out _ HB4.out).mono ?_
        rintro e w5 ⟨b, rfl, hbb, hb5⟩
        have hbt : b = false := by
          cases b
          · rfl
          · exact absurd (HSR.out.1 (hbb.1 rfl)) Hs.out
        subst hbt
        have HB5 := Lib.hid (HB4.out.trans (hb5.mono HB4.out.size))
        have hbt5 := Hbt.out.below hb5 Hbt.out.lt
        obtain ⟨lt, y0, -, y1, -, y2, -⟩ := hbt5.three
        clear l0 x0 x1 hbb hb5 HB4 Hbt hbt5
        go_wp2
        go_ret
        exact ⟨rfl, HB5.out⟩
end Go.Proofs.YtghlnknncahkgaaGreat
