/-
  Texts joined by program, what the law uses alone: CnBd ArgS ArgB.
-/
import Derived.ProofKit
import Derived.WideShapes
import Derived.OpenShut
import Derived.Deep.Slices
import Derived.Lib.SmallJoins
import Derived.Test.YtghlnknncahkgaaGreatB8
import Derived.Test.YtghlnknncahkgaaGreatB1
namespace Go.Proofs.YtghlnknncahkgaaGreat
open Go.RowKit Go.Maps

set_option maxRecDepth 100000 in
set_option maxHeartbeats 1000000 in
theorem great10_is (N : Int) (v : Value) (T : List Tr) (w : World) (h : TrisRd w v T) : Calls Tryz.prog 17 #[.agg #[.int .i64 N, v]] w fun e w' => e = .returned (.int .i64 (if 40 < T.length ∨ 60 < N ∨ N < -1000 then 1 else 0)) ∧ Below w.heap.size w w' := by
  have b1 := Blk.new w 24 #[.int .i64 N, v]
  have hB0 : Below w.heap.size w (w.alloc (.cells #[.int .i64 N, v] 24)) := (Below.refl _ _).alloc (Nat.le_refl _) _
  obtain ⟨a, cT, rfl, -⟩ := h
  obtain ⟨n, hn⟩ : ∃ n, T.length = n := ⟨_, rfl⟩
  rw [hn] at b1 hB0 ⊢
  obtain ⟨l0, x0, -, x1, -⟩ := b1.two
  have HB := Lib.hid hB0
  clear hn b1 hB0
  by_cases c0 : 40 < n
  · have d0 : (40 : Int) < (n : Int) := by omega
    go_enter Tryz.func17, Tryz.ntmps17
    go_wp2
    go_ret
    exact ⟨rfl, HB.out⟩
  · have d0 : decide ((40 : Int) < (n : Int)) = false := by simp; omega
    by_cases c1 : 60 < N
    · go_enter Tryz.func17, Tryz.ntmps17
      go_wp2
      go_ret
      exact ⟨rfl, HB.out⟩
    · have d1 : decide (60 < N) = false := by simp; omega
      by_cases c2 : N < -1000
      · go_enter Tryz.func17, Tryz.ntmps17
        go_wp2
        go_ret
        exact ⟨rfl, HB.out⟩
      · have d2 : decide (N < -1000) = false := by simp; omega
        go_enter Tryz.func17, Tryz.ntmps17
        go_wp2
        go_ret
        exact ⟨rfl, HB.out⟩
set_option maxRecDepth 100000 in
set_option maxHeartbeats 4000000 in
theorem canonBody_walk (N0 : Int) (v0 p0 k0 : Value) (T0 P0 : List Tr) (K0 : List Int) (w : World) (h0 : TrisRd w v0 T0) (hp0 : TrisRd w p0 P0) (hk0 : IntsRd w k0 K0) :
    Calls Tryz.prog 10 #[.agg #[.int .i64 N0, v0, p0, k0]] w fun en w' => en = .returned (.bool true) ∧ Below w.heap.size w w' := by
  have hb1 := Blk.new w 65 #[.int .i64 N0, v0, p0, k0]
  have hB0 : Below w.heap.size w (w.alloc (.cells #[.int .i64 N0, v0, p0, k0] 65)) := (Below.refl _ _).alloc (Nat.le_refl _) _
  have HAw := Lib.hid (awake46_any (w.alloc (.cells #[.int .i64 N0, v0, p0, k0] 65)))
  have HGr := Lib.hid (fun (W : World) (hW : Below w.heap.size w W) => great10_is N0 v0 T0 W (h0.below hW))
  have HIs := Lib.hid (fun (W : World) (hW : Below w.heap.size w W) (hl : T0.length ≤ 20) => is_any N0 v0 T0 W (h0.below hW) (by omega))
  have HCb := Lib.hid (fun (W : World) (hW : Below w.heap.size w W) (hl : T0.length ≤ 20) (hN : N0 ≤ 60) => cbody_any N0 v0 p0 k0 T0 P0 K0 W (h0.below hW) (hp0.below hW) (hk0.below hW) (by omega) hN)
  have HRb := Lib.hid (fun (W : World) (hW : Below w.heap.size w W) (hl : T0.length ≤ 20) (hN : N0 ≤ 60) (hS : Surf N0 T0) (hL : Lens N0 T0 P0 K0) => body46_any N0 v0 p0 k0 T0 P0 K0 W (h0.below hW) (hp0.below hW) (hk0.below hW) hS (by omega) hN hL.1 (fun h => by rcases hL.2 with h1 | h1; exact absurd (List.eq_nil_of_length_eq_zero h1) h; exact h1))
  obtain ⟨a0, c0, rfl, -⟩ := h0
  obtain ⟨a1, c1, rfl, -⟩ := hp0
  obtain ⟨a2, c2, rfl, -⟩ := hk0
  obtain ⟨n0, hn0⟩ : ∃ n, T0.length = n := ⟨_, rfl⟩
  obtain ⟨n1, hn1⟩ : ∃ n, P0.length = n := ⟨_, rfl⟩
  obtain ⟨n2, hn2⟩ : ∃ n, K0.length = n := ⟨_, rfl⟩
  rw [hn0] at HIs
  rw [hn0, hn1, hn2] at hb1 hB0 HAw HCb HRb ⊢
  rw [hn0] at HGr
  have HL := Lib.hid (show Lens N0 T0 P0 K0 ↔ ((n1 : Int) = N0 ∧ (n2 = 0 ∨ n2 = 3 * n0)) from by unfold Lens; rw [hn0, hn1, hn2])
  have Hn := Lib.hid (And.intro hn0 (And.intro hn1 hn2))
  obtain ⟨l0, x0, x1, x2, x3⟩ := fourF hb1
  have HB0 := Lib.hid hB0
  have HK := Lib.hid hb1
  clear hn0 hn1 hn2 hb1 hB0
  go_enter Tryz.func10, Tryz.ntmps10
  go_upto_if 6 with (go_at_call 11; go_loud (with_reducible refine HAw.out.mono ?_; rintro e w1 ⟨rfl, hb⟩))
  have hBw := HB0.out.trans (hb.mono HB0.out.size)
  have hk := HK.out.below hb l0
  obtain ⟨l1, y0, y1, y2, y3⟩ := fourF hk
  have HK1 := Lib.hid hk
  have HB1 := Lib.hid hBw
  have HG1 := Lib.hid (HGr.out w1 hBw)
  clear hb hk hBw x0 x1 x2 x3
  by_cases h24 : 20 < n0
  · have d0 : (20 : Int) < (n0 : Int) := by omega
    go_wp2
    go_ret
    exact ⟨rfl, HB1.out⟩
  · have d0 : decide ((20 : Int) < (n0 : Int)) = false := by simp; omega
    have hl24 : n0 ≤ 20 := by omega
    clear h24
    by_cases hg : 40 < n0 ∨ 60 < N0 ∨ N0 < -1000
    · have HG2 := Lib.hid (show Calls Tryz.prog 17 #[.agg #[.int .i64 N0, .slice a0 n0 c0]] w1 fun e w' => e = .returned (.int .i64 1) ∧ Below w1.heap.size w1 w' from by have h9 := HG1.out; rw [if_pos hg] at h9; exact h9)
      go_wp2_with (go_at_call 17; go_loud (with_reducible refine HG2.out.mono ?_); rintro e w2 ⟨rfl, hb2⟩)
      go_ret
      exact ⟨rfl, HB1.out.trans (hb2.mono HB1.out.size)⟩
    · have HG2 := Lib.hid (show Calls Tryz.prog 17 #[.agg #[.int .i64 N0, .slice a0 n0 c0]] w1 fun e w' => e = .returned (.int .i64 0) ∧ Below w1.heap.size w1 w' from by have h9 := HG1.out; rw [if_neg hg] at h9; exact h9)
      have hN : N0 ≤ 60 := by omega
      clear hg
      by_cases h60 : 60 < n1
      · have d1 : (60 : Int) < (n1 : Int) := by omega
        go_wp2_with (go_at_call 17; go_loud (with_reducible refine HG2.out.mono ?_); rintro e w2 ⟨rfl, hb2⟩; have hk2 := HK1.out.below hb2 l1; obtain ⟨l2, z0, z1, z2, z3⟩ := fourF hk2; clear y0 y1 y2 y3)
        go_ret
        exact ⟨rfl, HB1.out.trans (hb2.mono HB1.out.size)⟩
      · have d1 : decide ((60 : Int) < (n1 : Int)) = false := by simp; omega
        by_cases h61 : 60 < n2
        · have d2 : (60 : Int) < (n2 : Int) := by omega
          go_wp2_with (go_at_call 17; go_loud (with_reducible refine HG2.out.mono ?_); rintro e w2 ⟨rfl, hb2⟩; have hk2 := HK1.out.below hb2 l1; obtain ⟨l2, z0, z1, z2, z3⟩ := fourF hk2; clear y0 y1 y2 y3)
          go_ret
          exact ⟨rfl, HB1.out.trans (hb2.mono HB1.out.size)⟩
        · have d2 : decide ((60 : Int) < (n2 : Int)) = false := by simp; omega
          have hn1 : n1 ≤ 60 := by omega
          have hn2 : n2 ≤ 60 := by omega
          clear h60 h61
          go_upto_if 29 with (go_at_call 17; go_loud (with_reducible refine HG2.out.mono ?_); rintro e w2 ⟨rfl, hb2⟩; have hk2 := HK1.out.below hb2 l1; obtain ⟨l2, z0, z1, z2, z3⟩ := fourF hk2; clear y0 y1 y2 y3)
          have HB2 := Lib.hid (HB1.out.trans (hb2.mono HB1.out.size))
          have HK2 := Lib.hid hk2
          have HC2 := Lib.hid (HCb.out w2 HB2.out hl24 hN)
          clear hb2 hk2
          have hz2 := HB2.out.size
          have HIw := Lib.hid (fun (W : World) (hW : Below w2.heap.size w2 W) => HIs.out W (HB2.out.trans (hW.mono hz2)) hl24)
          by_cases hS : Surf N0 T0
          · have HI1 := Lib.hid (fun (W : World) (hW : Below w2.heap.size w2 W) => (HIw.out W hW).mono (R' := fun e w' => e = .returned (.bool true) ∧ Below W.heap.size W w') (by
              rintro e w' ⟨bs, rfl, hbs, hb⟩
              exact ⟨by rw [hbs.2 hS], hb⟩))
            by_cases hLn : Lens N0 T0 P0 K0
            · have HR9 := Lib.hid (fun (W : World) (hW : Below w2.heap.size w2 W) => HRb.out W (HB2.out.trans (hW.mono hz2)) hl24 hN hS hLn)
              have HSf := Lib.hid hS
              have hL9 := HL.out.1 hLn
              have hP9 : ((n1 : Int) != N0) = false := by simp [hL9.1]
              have HC3 := Lib.hid (HC2.out.mono (R' := fun e w' => ∃ out m SN aX nX cX aY nY cY aZ nZ cZ, FmL T0 P0 K0 w2 w' out m SN (.slice aX nX cX) (.slice aY nY cY) (.slice aZ nZ cZ) nX nY nZ ∧ e = .returned (.tuple #[.agg #[.int .i64 SN, .slice aX nX cX, .slice aY nY cY, .slice aZ nZ cZ], .int .i64 0]) ∧ Below w2.heap.size w2 w') (by
                rintro e w' ⟨hc, hb⟩
                rcases hc with ⟨hn, -⟩ | ⟨-, hn, -⟩ | ⟨-, -, out, m, SN, aX, nX, cX, aY, nY, cY, aZ, nZ, cZ, hF, he⟩
                · exact absurd hS hn
                · exact absurd hLn hn
                · exact ⟨out, m, SN, aX, nX, cX, aY, nY, cY, aZ, nZ, cZ, hF, he, hb⟩))
              have hl9 := hL9.2
              clear hS hLn hL9
              go_upto_region 6 with (go_at_call 30; go_loud (with_reducible refine HC3.out.mono ?_); rintro e w3 ⟨out, m, SN, aX, nX, cX, aY, nY, cY, aZ, nZ, cZ, hF, rfl, hb3⟩)
              have hA := (Below.refl w3.heap.size w3).alloc (Nat.le_refl _) (.cells #[.int .i64 SN, .slice aX nX cX, .slice aY nY cY, .slice aZ nZ cZ] 65)
              have hBB := hb3.trans (hA.mono hb3.size)
              have hk3 := HK2.out.below hBB l2
              have hq3 := Blk.new w3 65 #[.int .i64 SN, .slice aX nX cX, .slice aY nY cY, .slice aZ nZ cZ]
              have hX3 := own_below hF.rX hA
              have hY3 := own_below hF.rY hA
              have hZ3 := own_below hF.rZ hA
              have hbd := soups_bd (P := P0) (K := K0) hF.sh (hF.sh.hasP hF.mm)
              have hbP := flat_bd (·.P) (sortM T0 P0 K0 out m) 1000 (by
                intro r hr
                obtain ⟨c, hc, rfl⟩ := sort_mem (hF.sh.hasP hF.mm) hr
                have h1 := from_len T0 P0 K0 hc
                have h2 := (rtN_lens hc).2.1
                have := Hn.out.1
                omega) m
              have hbK := flat_bd (·.K) (sortM T0 P0 K0 out m) 1000 (by
                intro r hr
                obtain ⟨c, hc, rfl⟩ := sort_mem (hF.sh.hasP hF.mm) hr
                have h1 := from_len T0 P0 K0 hc
                have h2 := (rtN_lens hc).2.1
                have := Hn.out.1
                omega) m
              have hm20 : m ≤ 20 := by have := (hF.sh.hasP hF.mm).le HSf.out hF.sh; have := HSf.out.n0; omega
              rw [List.take_of_length_le (Nat.le_of_eq (sort_len T0 P0 K0 out m)), sort_len] at hbP hbK
              have hmm : m * 1000 ≤ 20 * 1000 := Nat.mul_le_mul_right _ hm20
              obtain ⟨SS, hSS⟩ : ∃ SS, (joinM (soupsM (sortM T0 P0 K0 out m))).2 = SS := ⟨_, rfl⟩
              obtain ⟨PP, hPP⟩ : ∃ PP, (sortM T0 P0 K0 out m).flatMap (·.P) = PP := ⟨_, rfl⟩
              obtain ⟨KK, hKK⟩ : ∃ KK, (sortM T0 P0 K0 out m).flatMap (·.K) = KK := ⟨_, rfl⟩
              have hR10 : ∀ (W : World), Below w2.heap.size w2 W → Calls Tryz.prog 32 #[.agg #[.int .i64 N0, .slice a0 n0 c0, .slice a1 n1 c1, .slice a2 n2 c2]] W fun e w' => ∃ vX vY vZ, e = .returned (.agg #[.int .i64 SN, vX, vY, vZ]) ∧ TrisRd w' vX SS ∧ TrisRd w' vY PP ∧ IntsRd w' vZ KK ∧ Below W.heap.size W w' := fun W hW => (HR9.out W hW).mono (by
                rintro e w' ⟨out', m', vX, vY, vZ, hsh', hm', rfl, rX, rY, rZ, hb⟩
                obtain rfl := hsh'.one hF.sh
                have : m' = m := by have := hF.mm; omega
                subst this
                rw [hSS] at rX
                rw [hPP] at rY
                rw [hKK] at rZ
                exact ⟨vX, vY, vZ, by rw [hF.eN], TrisRd.of_row rX, TrisRd.of_pts rY, IntsRd.of_row rZ rfl, hb⟩)
              have hX4 : TrisRd (w3.alloc (.cells #[.int .i64 SN, .slice aX nX cX, .slice aY nY cY, .slice aZ nZ cZ] 65)) (.slice aX nX cX) SS := TrisRd.of_row (by have h9 := hX3; rw [hSS] at h9; rw [show SS.length = nX from by rw [← hSS]; exact hF.eX]; exact h9)
              have hY4 : TrisRd (w3.alloc (.cells #[.int .i64 SN, .slice aX nX cX, .slice aY nY cY, .slice aZ nZ cZ] 65)) (.slice aY nY cY) PP := TrisRd.of_pts (by have h9 := hY3; rw [hPP] at h9; rw [show PP.length = nY from by rw [← hPP]; exact hF.eY]; exact h9)
              have hZ4 : IntsRd (w3.alloc (.cells #[.int .i64 SN, .slice aX nX cX, .slice aY nY cY, .slice aZ nZ cZ] 65)) (.slice aZ nZ cZ) KK := IntsRd.of_row (by have h9 := hZ3; rw [hKK] at h9; exact h9) (by rw [← hKK]; exact hF.eZ)
              have hlS : SS.length ≤ 1000 := by rw [← hSS]; have := Hn.out.1; omega
              have hlP : PP.length ≤ 20000 := by rw [← hPP]; omega
              have hlK : KK.length ≤ 20000 := by rw [← hKK]; omega
              have HB3 := Lib.hid (HB2.out.trans (hBB.mono hz2))
              have HBB := Lib.hid hBB
              clear hA hX3 hY3 hZ3 hbd hbP hbK hmm hm20 hSS hPP hKK hF hb3 hBB
              generalize w3.alloc (.cells #[.int .i64 SN, .slice aX nX cX, .slice aY nY cY, .slice aZ nZ cZ] 65) = W3 at *
              generalize w3.heap.size = q3 at *
              have HR10 := Lib.hid hR10
              have HK3 := Lib.hid hk3
              have HQ3 := Lib.hid hq3
              have HRd := Lib.hid (And.intro hX4 (And.intro hY4 hZ4))
              have HI3 := Lib.hid (HI1.out W3 HBB.out)
              obtain ⟨l3, y0, y1, y2, y3⟩ := fourF hk3
              clear hR10 hk3 hq3 hX4 hY4 hZ4 z0 z1 z2 z3 l2
              go_upto_if 38 with (go_at_call 19; go_loud (with_reducible refine HI3.out.mono ?_); rintro e w4 ⟨rfl, hb4⟩)
              have HB4 := Lib.hid (HB3.out.trans (hb4.mono HB3.out.size))
              have HBB4 := Lib.hid (HBB.out.trans (hb4.mono HBB.out.size))
              have HK4 := Lib.hid (HK3.out.below hb4 l3)
              have HQ4 := Lib.hid (HQ3.out.below hb4 HQ3.out.lt)
              have HRd4 := Lib.hid (And.intro (HRd.out.1.below hb4) (And.intro (HRd.out.2.1.below hb4) (HRd.out.2.2.below hb4)))
              clear y0 y1 y2 y3 l3 hb4
              obtain ⟨l4, y0, y1, y2, y3⟩ := fourF HK4.out
              obtain ⟨l5, z0, z1, z2, z3⟩ := fourF HQ4.out
              have hK9 : ((n2 : Int) != 0) = false ∨ (((n2 : Int) != 0) = true ∧ ((n2 : Int) != 3 * (n0 : Int)) = false) := by
                rcases hl9 with h9 | h9
                · left
                  simp [h9]
                · by_cases h8 : n2 = 0
                  · left
                    simp [h8]
                  · right
                    refine ⟨by simp; omega, by simp; omega⟩
              have hBd : Below w4.heap.size w4 w4.drew := (Below.refl _ _).drew
              have HBd := Lib.hid hBd
              clear hBd
              rcases hK9 with h9 | ⟨h9, h8⟩
              all_goals
                go_upto_if 82 with fail
                go_upto_region 10 with fail
                go_region_held3 (fun w' => w'.cell? ⟨w.heap.size, 0, none⟩ = some (.int .i64 N0) ∧ w'.cell? ⟨w.heap.size, 1, none⟩ = some (.slice a0 n0 c0) ∧ w'.cell? ⟨w.heap.size, 2, none⟩ = some (.slice a1 n1 c1) ∧ w'.cell? ⟨w.heap.size, 3, none⟩ = some (.slice a2 n2 c2) ∧ w'.cell? ⟨q3, 0, none⟩ = some (.int .i64 SN) ∧ w'.cell? ⟨q3, 1, none⟩ = some (.slice aX nX cX) ∧ w'.cell? ⟨q3, 2, none⟩ = some (.slice aY nY cY) ∧ w'.cell? ⟨q3, 3, none⟩ = some (.slice aZ nZ cZ)) (first | go_keep | exact ⟨(HK4.out.below (by assumption) l4).cell 0, (HK4.out.below (by assumption) l4).cell 1, (HK4.out.below (by assumption) l4).cell 2, (HK4.out.below (by assumption) l4).cell 3, (HQ4.out.below (by assumption) l5).cell 0, (HQ4.out.below (by assumption) l5).cell 1, (HQ4.out.below (by assumption) l5).cell 2, (HQ4.out.below (by assumption) l5).cell 3⟩)
                  (first
                  | (go_at_call 32; with_reducible refine (HR10.out _ (HBB4.out.trans (HBd.out.mono HBB4.out.size))).mono ?_; rintro e w6 ⟨vX, vY, vZ, rfl, hx6, hy6, hz6, hb6⟩; have hb46 : Below w4.heap.size w4 w6 := HBd.out.trans (hb6.mono HBd.out.size); have HAl := Lib.hid (alike_same SN (.slice aX nX cX) vX (.slice aY nY cY) vY (.slice aZ nZ cZ) vZ SS PP KK w6 (HRd4.out.1.below hb46) hx6 (HRd4.out.2.1.below hb46) hy6 (HRd4.out.2.2.below hb46) hz6 (by omega) (by omega) (by omega)); clear hx6 hy6 hz6 hb6)
                  | (go_at_call 31; with_reducible refine HAl.out.mono ?_; rintro e w7 ⟨rfl, hb7⟩; have hb47 : Below w4.heap.size w4 w7 := hb46.trans (hb7.mono hb46.size); clear hb7))
                go_wp2
                go_ret
                exact ⟨rfl, HB4.out.trans (hb47.mono HB4.out.size)⟩
            · have HSf := Lib.hid hS
              have HNL := Lib.hid hLn
              have HC3 := Lib.hid (HC2.out.mono (R' := fun e w' => e = .returned (.tuple #[.agg #[.int .i64 0, .slice none 0 0, .slice none 0 0, .slice none 0 0], .int .i64 1]) ∧ Below w2.heap.size w2 w') (by
                rintro e w' ⟨hc, hb⟩
                rcases hc with ⟨hn, -⟩ | ⟨-, -, he⟩ | ⟨-, hn, -⟩
                · exact absurd hS hn
                · exact ⟨he, hb⟩
                · exact absurd hn hLn))
              have hno : ¬ ((n1 : Int) = N0 ∧ (n2 = 0 ∨ n2 = 3 * n0)) := fun h => hLn (HL.out.2 h)
              clear hS hLn
              go_upto_region 6 with (go_at_call 30; go_loud (with_reducible refine HC3.out.mono ?_); rintro e w3 ⟨rfl, hb3⟩)
              have hA := (Below.refl w3.heap.size w3).alloc (Nat.le_refl _) (.cells #[.int .i64 0, .slice none 0 0, .slice none 0 0, .slice none 0 0] 65)
              have hBB := hb3.trans (hA.mono hb3.size)
              have hk3 := HK2.out.below hBB l2
              have hq3 := Blk.new w3 65 #[.int .i64 0, .slice none 0 0, .slice none 0 0, .slice none 0 0]
              have HB3 := Lib.hid (HB2.out.trans (hBB.mono hz2))
              have HBB := Lib.hid hBB
              clear hA hb3 hBB
              generalize w3.alloc (.cells #[.int .i64 0, .slice none 0 0, .slice none 0 0, .slice none 0 0] 65) = W3 at *
              generalize w3.heap.size = q3 at *
              have HK3 := Lib.hid hk3
              have HQ3 := Lib.hid hq3
              have HI3 := Lib.hid (HI1.out W3 HBB.out)
              obtain ⟨l3, y0, y1, y2, y3⟩ := fourF hk3
              clear hk3 hq3 z0 z1 z2 z3 l2
              go_upto_if 38 with (go_at_call 19; go_loud (with_reducible refine HI3.out.mono ?_); rintro e w4 ⟨rfl, hb4⟩)
              have HB4 := Lib.hid (HB3.out.trans (hb4.mono HB3.out.size))
              have HK4 := Lib.hid (HK3.out.below hb4 l3)
              have HQ4 := Lib.hid (HQ3.out.below hb4 HQ3.out.lt)
              clear y0 y1 y2 y3 l3 hb4
              obtain ⟨l4, y0, y1, y2, y3⟩ := fourF HK4.out
              obtain ⟨l5, z0, z1, z2, z3⟩ := fourF HQ4.out
              by_cases hP9 : (n1 : Int) = N0
              · have bP : ((n1 : Int) != N0) = false := by simp [hP9]
                have bK : ((n2 : Int) != 0) = true := by
                  have : n2 ≠ 0 := fun h => hno ⟨hP9, .inl h⟩
                  simp
                  omega
                have bK3 : ((n2 : Int) != 3 * (n0 : Int)) = true := by
                  have : n2 ≠ 3 * n0 := fun h => hno ⟨hP9, .inr h⟩
                  simp
                  omega
                clear hP9 hno
                go_wp2
                go_ret
                exact ⟨rfl, HB4.out⟩
              · have bP : ((n1 : Int) != N0) = true := by simpa using hP9
                clear hP9 hno
                go_wp2
                go_ret
                exact ⟨rfl, HB4.out⟩
          · have HI1 := Lib.hid (fun (W : World) (hW : Below w2.heap.size w2 W) => (HIw.out W hW).mono (R' := fun e w' => e = .returned (.bool false) ∧ Below W.heap.size W w') (by
              rintro e w' ⟨bs, rfl, hbs, hb⟩
              cases bs with
              | false => exact ⟨rfl, hb⟩
              | true => exact absurd (hbs.1 rfl) hS))
            have HC3 := Lib.hid (HC2.out.mono (R' := fun e w' => e = .returned (.tuple #[.agg #[.int .i64 0, .slice none 0 0, .slice none 0 0, .slice none 0 0], .int .i64 11]) ∧ Below w2.heap.size w2 w') (by
              rintro e w' ⟨hc, hb⟩
              rcases hc with ⟨-, he⟩ | ⟨hn, -⟩ | ⟨hn, -⟩
              · exact ⟨he, hb⟩
              · exact absurd hn hS
              · exact absurd hn hS))
            clear hS
            go_upto_region 6 with (go_at_call 30; go_loud (with_reducible refine HC3.out.mono ?_); rintro e w3 ⟨rfl, hb3⟩)
            have hA := (Below.refl w3.heap.size w3).alloc (Nat.le_refl _) (.cells #[.int .i64 0, .slice none 0 0, .slice none 0 0, .slice none 0 0] 65)
            have hBB := hb3.trans (hA.mono hb3.size)
            have hk3 := HK2.out.below hBB l2
            have hq3 := Blk.new w3 65 #[.int .i64 0, .slice none 0 0, .slice none 0 0, .slice none 0 0]
            have HB3 := Lib.hid (HB2.out.trans (hBB.mono hz2))
            have HBB := Lib.hid hBB
            clear hA hb3 hBB
            generalize w3.alloc (.cells #[.int .i64 0, .slice none 0 0, .slice none 0 0, .slice none 0 0] 65) = W3 at *
            generalize w3.heap.size = q3 at *
            have HK3 := Lib.hid hk3
            have HQ3 := Lib.hid hq3
            have HI3 := Lib.hid (HI1.out W3 HBB.out)
            obtain ⟨l3, y0, y1, y2, y3⟩ := fourF hk3
            clear hk3 hq3 z0 z1 z2 z3 l2
            go_upto_if 38 with (go_at_call 19; go_loud (with_reducible refine HI3.out.mono ?_); rintro e w4 ⟨rfl, hb4⟩)
            have HB4 := Lib.hid (HB3.out.trans (hb4.mono HB3.out.size))
            have HK4 := Lib.hid (HK3.out.below hb4 l3)
            have HQ4 := Lib.hid (HQ3.out.below hb4 HQ3.out.lt)
            clear y0 y1 y2 y3 l3 hb4
            obtain ⟨l5, z0, z1, z2, z3⟩ := fourF HQ4.out
            go_wp2
            go_ret
            exact ⟨rfl, HB4.out⟩
end Go.Proofs.YtghlnknncahkgaaGreat
namespace Go.Proofs.YtghlnknncahkgaaGreat
open Go.RowKit

theorem three_cells {P : Program} {H : Type} {enc : TypeId × Value → H} {w : World} {base : Nat} {spare : Nat → Bool} {held : Bool} {t u : TypeId} {m : Nat} {cs : List Value} {x : DataW H × List MemPlace}
    (ht : P.underlying t = some (.array 3 u)) (hu : P.underlying u = some (.int .i64)) (hc : P.cellsOf u = 1) (hl : cs.length = 3) (h : DataW.trod enc P w base spare held m t cs = some x) :
    ∃ a b c : Int, cs = [.int .i64 a, .int .i64 b, .int .i64 c] := by
  obtain ⟨xs, n, -, -, -, hx, hel⟩ := DataW.trod_array ht h
  rw [hc] at hel
  match cs, hl with
  | [v0, v1, v2], _ =>
    have key : ∀ i v, i < 3 → ([v0, v1, v2].drop (i * 1)).take 1 = [v] → ∃ z : Int, v = .int .i64 z := by
      intro i v hi hv
      have e := hel i hi
      rw [hv] at e
      obtain ⟨y, hy⟩ : ∃ y, xs[i]? = some y := ⟨xs[i]'(by omega), List.getElem?_eq_getElem _⟩
      rw [hy] at e
      obtain ⟨z, hz, -, -⟩ := DataW.trod_int hu e
      exact ⟨z, by simpa using hz⟩
    obtain ⟨a, rfl⟩ := key 0 v0 (by omega) rfl
    obtain ⟨b, rfl⟩ := key 1 v1 (by omega) rfl
    obtain ⟨c, rfl⟩ := key 2 v2 (by omega) rfl
    exact ⟨a, b, c, rfl⟩
theorem tris_open {H : Type} {enc : TypeId × Value → H} {w : World} {base : Nat} {spare : Nat → Bool} {held : Bool} {m : Nat} {v : Value} {x : DataW H × List MemPlace}
    (h : DataW.trod enc Tryz.prog w base spare held m 22 [v] = some x) : ∃ T, TrisRd w v T := by
  rcases Go.Deep.open_slice Tryz.underlying22 h with ⟨e1, -⟩ | ⟨a, len, cap, q, n, D, Pl, e1, hb, hl, hm, hq, -, hall⟩
  · have e : v = .slice none 0 0 := by simpa using e1
    subst e
    exact ⟨[], none, 0, rfl, by simp, by decide, fun k x y z hk => by simp at hk⟩
  · have e : v = .slice (some a) len cap := by simpa using e1
    subst e
    have h3 : Tryz.prog.cellsOf 72 = 3 := by kernel_rfl
    have hlq : len ≤ q := by rw [hq]; split <;> omega
    have key : ∀ i, ∃ t : Tr, i < len → w.cell? (a.add (i * 3)) = some (.int .i64 t.1) ∧ w.cell? ((a.add (i * 3)).add 1) = some (.int .i64 t.2.1) ∧ w.cell? ((a.add (i * 3)).add 2) = some (.int .i64 t.2.2) := by
      intro i
      by_cases hi : i < len
      · obtain ⟨cs, hcs, htr⟩ := hall i (by omega)
        rw [h3] at hcs
        obtain ⟨-, hcl, hce⟩ := World.cells?_some hcs
        obtain ⟨x, y, z, rfl⟩ := three_cells Tryz.underlying72 Tryz.underlying3 (by kernel_rfl) hcl htr
        refine ⟨(x, y, z), fun _ => ⟨?_, hce 1 (by omega), hce 2 (by omega)⟩⟩
        have := hce 0 (by omega)
        have e0 : (a.add (i * 3)).add 0 = a.add (i * 3) := by simp [Addr.add]
        rw [e0] at this
        exact this
      · exact ⟨(0, 0, 0), fun h => absurd h hi⟩
    obtain ⟨f, hf⟩ := Classical.axiomOfChoice key
    refine ⟨(List.range len).map f, some a, cap, by simp, by simpa using hl, by unfold maxLen at hm; omega, fun k x y z hk => ?_⟩
    have hk' : k < len := by
      have := (List.getElem?_eq_some_iff.1 hk).1
      simpa using this
    rw [List.getElem?_map, List.getElem?_range hk'] at hk
    have hfk : f k = (x, y, z) := by simpa using hk
    obtain ⟨c0, c1, c2⟩ := hf k hk'
    rw [hfk] at c0 c1 c2
    obtain ⟨b, off, spot⟩ := a
    have hspot : spot = none := by simpa [Addr.add] using World.cell?_spot (hf 0 (by omega)).1
    subst hspot
    rw [Addr.add_lit] at c0
    rw [Addr.add_lit, Addr.add_lit] at c1 c2
    refine ⟨b, off, rfl, ?_, c0, c1, c2⟩
    rcases Nat.lt_or_ge b w.heap.size with hlt | hge
    · exact hlt
    · exfalso
      unfold World.cell? at c0
      simp [Array.getElem?_eq_none hge] at c0
end Go.Proofs.YtghlnknncahkgaaGreat
namespace Go.Proofs.YtghlnknncahkgaaGreat
open Go.RowKit Go.WideShapes Go.ChangeShapes Go.Joins Go.Deep

theorem pts_open {H : Type} {enc : TypeId × Value → H} {w : World} {base : Nat} {spare : Nat → Bool} {held : Bool} {m : Nat} {v : Value} {x : DataW H × List MemPlace}
    (h : DataW.trod enc Tryz.prog w base spare held m 63 [v] = some x) : ∃ T, TrisRd w v T := by
  rcases Go.Deep.open_slice Tryz.underlying63 h with ⟨e1, -⟩ | ⟨a, len, cap, q, n, D, Pl, e1, hb, hl, hm, hq, -, hall⟩
  · have e : v = .slice none 0 0 := by simpa using e1
    subst e
    exact ⟨[], none, 0, rfl, by simp, by decide, fun k x y z hk => by simp at hk⟩
  · have e : v = .slice (some a) len cap := by simpa using e1
    subst e
    have h3 : Tryz.prog.cellsOf 111 = 3 := by kernel_rfl
    have hlq : len ≤ q := by rw [hq]; split <;> omega
    have key : ∀ i, ∃ t : Tr, i < len → w.cell? (a.add (i * 3)) = some (.int .i64 t.1) ∧ w.cell? ((a.add (i * 3)).add 1) = some (.int .i64 t.2.1) ∧ w.cell? ((a.add (i * 3)).add 2) = some (.int .i64 t.2.2) := by
      intro i
      by_cases hi : i < len
      · obtain ⟨cs, hcs, htr⟩ := hall i (by omega)
        rw [h3] at hcs
        obtain ⟨-, hcl, hce⟩ := World.cells?_some hcs
        obtain ⟨x, y, z, rfl⟩ := three_cells Tryz.underlying111 Tryz.underlying3 (by kernel_rfl) hcl htr
        refine ⟨(x, y, z), fun _ => ⟨?_, hce 1 (by omega), hce 2 (by omega)⟩⟩
        have := hce 0 (by omega)
        have e0 : (a.add (i * 3)).add 0 = a.add (i * 3) := by simp [Addr.add]
        rw [e0] at this
        exact this
      · exact ⟨(0, 0, 0), fun h => absurd h hi⟩
    obtain ⟨f, hf⟩ := Classical.axiomOfChoice key
    refine ⟨(List.range len).map f, some a, cap, by simp, by simpa using hl, by unfold maxLen at hm; omega, fun k x y z hk => ?_⟩
    have hk' : k < len := by
      have := (List.getElem?_eq_some_iff.1 hk).1
      simpa using this
    rw [List.getElem?_map, List.getElem?_range hk'] at hk
    have hfk : f k = (x, y, z) := by simpa using hk
    obtain ⟨c0, c1, c2⟩ := hf k hk'
    rw [hfk] at c0 c1 c2
    obtain ⟨b, off, spot⟩ := a
    have hspot : spot = none := by simpa [Addr.add] using World.cell?_spot (hf 0 (by omega)).1
    subst hspot
    rw [Addr.add_lit] at c0
    rw [Addr.add_lit, Addr.add_lit] at c1 c2
    refine ⟨b, off, rfl, ?_, c0, c1, c2⟩
    rcases Nat.lt_or_ge b w.heap.size with hlt | hge
    · exact hlt
    · exfalso
      unfold World.cell? at c0
      simp [Array.getElem?_eq_none hge] at c0
theorem ints_open {H : Type} {enc : TypeId × Value → H} {w : World} {base : Nat} {spare : Nat → Bool} {held : Bool} {m : Nat} {v : Value} {x : DataW H × List MemPlace}
    (h : DataW.trod enc Tryz.prog w base spare held m 28 [v] = some x) : ∃ K, IntsRd w v K := by
  rcases Go.Deep.open_slice Tryz.underlying28 h with ⟨e1, -⟩ | ⟨a, len, cap, q, n, D, Pl, e1, hb, hl, hm, hq, -, hall⟩
  · have e : v = .slice none 0 0 := by simpa using e1
    subst e
    exact ⟨[], none, 0, rfl, by simp, fun k x hk => by simp at hk⟩
  · have e : v = .slice (some a) len cap := by simpa using e1
    subst e
    have h1 : Tryz.prog.cellsOf 3 = 1 := by kernel_rfl
    have hlq : len ≤ q := by rw [hq]; split <;> omega
    have key : ∀ i, ∃ t : Int, i < len → w.cell? (a.add i) = some (.int .i64 t) := by
      intro i
      by_cases hi : i < len
      · obtain ⟨cs, hcs, htr⟩ := hall i (by omega)
        rw [h1] at hcs
        obtain ⟨-, hcl, hce⟩ := World.cells?_some hcs
        obtain ⟨z, hz, -, -⟩ := DataW.trod_int Tryz.underlying3 htr
        subst hz
        refine ⟨z, fun _ => ?_⟩
        have := hce 0 (by omega)
        have e0 : (a.add (i * 1)).add 0 = a.add i := by simp [Addr.add]
        rw [e0] at this
        exact this
      · exact ⟨0, fun h => absurd h hi⟩
    obtain ⟨f, hf⟩ := Classical.axiomOfChoice key
    refine ⟨(List.range len).map f, some a, cap, by simp, by unfold maxLen at hm; simp; omega, fun k x hk => ?_⟩
    have hk' : k < len := by
      have := (List.getElem?_eq_some_iff.1 hk).1
      simpa using this
    rw [List.getElem?_map, List.getElem?_range hk'] at hk
    have hfk : f k = x := by simpa using hk
    have c0 := hf k hk'
    rw [hfk] at c0
    obtain ⟨b, off, spot⟩ := a
    have hspot : spot = none := by simpa [Addr.add] using World.cell?_spot (hf 0 (by omega))
    subst hspot
    rw [Addr.add_lit] at c0
    refine ⟨b, off, rfl, ?_, c0⟩
    rcases Nat.lt_or_ge b w.heap.size with hlt | hge
    · exact hlt
    · exfalso
      unfold World.cell? at c0
      simp [Array.getElem?_eq_none hge] at c0
set_option maxRecDepth 100000 in
theorem body_open {H : Type} {enc : TypeId × Value → H} {w : World} {base : Nat} {spare : Nat → Bool} {held : Bool} {r : Go.Reach} {b0 : Nat} {v : Value} {d : DataW H} {p : List MemPlace}
    (hv : Value.okWide Tryz.prog w r b0 65 v) (h : DataW.Trod enc Tryz.prog w base spare held 65 v d p) :
    ∃ (N : Int) (vT vP vK : Value) (T P : List Tr) (K : List Int), v = .agg #[.int .i64 N, vT, vP, vK] ∧ TrisRd w vT T ∧ TrisRd w vP P ∧ IntsRd w vK K := by
  obtain ⟨cs, rfl, hsz⟩ := okWide_struct Tryz.underlying65 hv
  obtain ⟨c0, c1, c2, c3, rfl⟩ := array4 (hsz.trans (by kernel_rfl))
  obtain ⟨fuel, hf⟩ := h
  obtain ⟨y0, y1, y2, n, -, -, h0, h1, h2⟩ := trod_struct3 Tryz.underlying65 hf
  have k0 : Tryz.prog.cellsOf 24 = 2 := by kernel_rfl
  have k1 : Tryz.prog.cellsOf 63 = 1 := by kernel_rfl
  have k2 : Tryz.prog.cellsOf 28 = 1 := by kernel_rfl
  have k3 : Tryz.prog.cellsOf 22 = 1 := by kernel_rfl
  have k4 : Tryz.prog.cellsOf 3 = 1 := by kernel_rfl
  simp only [k0, k1, k2] at h0 h1 h2
  have h0' : DataW.trod enc Tryz.prog w base spare held n 24 [c0, c1] = some y0 := h0
  have h1' : DataW.trod enc Tryz.prog w base spare held n 63 [c2] = some y1 := h1
  have h2' : DataW.trod enc Tryz.prog w base spare held n 28 [c3] = some y2 := h2
  obtain ⟨z0, z1, n', -, -, g0, g1⟩ := trod_struct2 Tryz.underlying24 h0'
  simp only [k3, k4] at g0 g1
  have g0' : DataW.trod enc Tryz.prog w base spare held n' 3 [c0] = some z0 := g0
  have g1' : DataW.trod enc Tryz.prog w base spare held n' 22 [c1] = some z1 := g1
  obtain ⟨N, e0, -, -⟩ := DataW.trod_int Tryz.underlying3 g0'
  obtain ⟨T, hT⟩ := tris_open g1'
  obtain ⟨Pp, hP⟩ := pts_open h1'
  obtain ⟨K, hK⟩ := ints_open h2'
  obtain rfl : c0 = .int .i64 N := by simpa using e0
  exact ⟨N, c1, c2, c3, T, Pp, K, rfl, hT, hP, hK⟩
end Go.Proofs.YtghlnknncahkgaaGreat
