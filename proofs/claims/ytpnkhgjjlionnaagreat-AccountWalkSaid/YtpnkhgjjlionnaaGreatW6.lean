/-
  Texts joined by program, what the law uses alone: StpS StpE StpF Stp BegW GenA Gen Sep BorC Chk.
-/
import Derived.Deep.AppendLies
import Derived.Deep.RegionLaw
import Derived.Deep.DeepCutAuto
import Derived.BigRegion
import Derived.RegionTactic
import Derived.Lib.QuietBelow
import Derived.BigQuiet
import Derived.Deep.RegionHeld3
import Derived.RangeFuncNested
import Derived.RangeFuncCalls
import Derived.RangeFuncBound
import Derived.Shelf.Abstract
import Derived.RangeFuncLeaves
import Derived.OwnWalkIn
import Derived.TacticsInMore
import Derived.LoopNIn
import Derived.LoopIn
import Derived.Lib.Hide
import Derived.Test.YtpnkhgjjlionnaaGreatW5
import Derived.Test.YtpnkhgjjlionnaaGreatShelf
import Derived.Test.YtpnkhgjjlionnaaGreatW4
import Derived.Test.YtpnkhgjjlionnaaGreatW2
import Derived.Test.YtpnkhgjjlionnaaGreatW3
namespace Go.Proofs.YtpnkhgjjlionnaaGreat
open Go.RowKit Go.Maps
/-- Behind the first half. -/
def SMid (w : World) (base g b n q1 : Nat) (vC vL vW0 : Value) (vs0 : List Value) (s : WSt) (st : Array Value) (W : World) : Prop := ∃ vW vs, WayAt W base g b vC vL vW vs n s ∧ Blk W q1 82 st ∧ Blk W w.heap.size 82 #[.int .u8 0, .int .i64 0, .int .i64 0, .int .i64 0] ∧ Kind w W b vC vL vW0 vs0 vL vW vs
theorem infoInts9 : (Tryz.prog.info? 30).map (fun i => (i.zero, i.size, i.bytes)) = some (some (.slice none 0 0), 1, 24) := by kernel_rfl
theorem cells_int {l : List Int} : ∀ u ∈ l.map (Value.int .i64), u.oneCell' = true := by
  intro u hu
  obtain ⟨z, _, rfl⟩ := List.mem_map.1 hu
  rfl

set_option maxRecDepth 100000 in
set_option maxHeartbeats 2000000 in
theorem stepS_any {w : World} {base g b n : Nat} {vC vL vW : Value} {vs : List Value} {s : WSt} {T : List Tr} (hT : Tab w g n T) (h : WayAt w base g b vC vL vW vs n s) {x y : Int} {r : List Int} (hl : s.loop = x :: y :: r)
    (hx : -1 ≤ x ∧ x ≤ 10000) (hy : -1 ≤ y ∧ y ≤ 10000) (hc : 0 ≤ facI T (x, y)) (hv : vertI T (facI T (x, y)) ∈ s.come) (hlen : r.length ≤ 50000) (hwl : s.wait.length ≤ 50000) (i : Nat) (hi2 : 2 < i) (hi3 : i < r.length + 1) (hi : Lib.idxOf s.loop (vertI T (facI T (x, y))) = i) :
    Calls Tryz.prog 66 #[.pointer (some ⟨b, 0, none⟩)] w fun e w' => e = .returned (.tuple #[.agg #[.int .u8 83, .int .i64 (facI T (x, y)), .int .i64 s.wait.length, .int .i64 (r.length + 2 : Nat)], .bool true]) ∧
      (∃ vL' vW' vs', WayAt w' base g b vC vL' vW' vs' n ⟨s.come, x :: (x :: y :: r).drop i, s.wait ++ [vertI T (facI T (x, y)) :: (y :: r).take (i - 1)]⟩ ∧ Kind w w' b vC vL vW vs vL' vW' vs') := by
  have hL := h.L
  rw [hl] at hL
  obtain ⟨m, hm⟩ : ∃ m, (x :: y :: r).length = m := ⟨_, rfl⟩
  rw [hm] at hL
  have hm2 : r.length + 2 = m := hm
  obtain ⟨gl, cap, rfl, hgl, hcap, hcap2⟩ := own_form hL (by omega)
  obtain ⟨aW, cW, rfl⟩ := ownsRow_slice h.W
  obtain ⟨lb, c0, c1, c2, c3, f2, f3⟩ := four h.blk
  have hs0 : (intsV (x :: y :: r))[0]? = some (.int .i64 x) := rfl
  have l0 : w.cell? ⟨gl, 0, none⟩ = some (.int .i64 x) := by rw [hL.cellAt 0 (by omega)]; exact hs0
  have l1 : w.cell? ⟨gl, 1, none⟩ = some (.int .i64 y) := by rw [hL.cellAt 1 (by omega)]; rfl
  have hnil := fun (W : World) => Lib.run_eql_slice_nil (P := Tryz.prog) W 30 3 (some ⟨gl, 0, none⟩) m cap 0 0 Tryz.underlying30
  obtain ⟨c, hce⟩ : ∃ c : Nat, facI T (x, y) = (c : Int) := ⟨(facI T (x, y)).toNat, by omega⟩
  have hcl := (facI_some hce).1
  have hvb := vertN_in hT.inr hcl
  obtain ⟨v, hve⟩ : ∃ v : Nat, vertI T (facI T (x, y)) = (v : Int) := ⟨(vertN T c).toNat, by rw [hce, vertI_nat hcl]; omega⟩
  have hvn : v < n := by rw [hce, vertI_nat hcl] at hve; omega
  obtain ⟨bs, hC, hbs⟩ := h.C
  obtain ⟨gC, capC, rfl, hgC, hcC, -⟩ := own_form hC (by omega)
  have hbv : bs[v]? = some true := (hbs.2 v hvn).2 (by rw [← hve]; exact hv)
  have cv : w.cell? ⟨gC, v, none⟩ = some (.bool true) := by
    rw [hC.cellAt v (by omega)]
    simp [bools, hbv]
  have HF := Lib.hid (fun (W : World) (hW : Below w.heap.size w W) => facing_any g n x y T W (hT.below hW) hx hy)
  have HV := Lib.hid (fun (W : World) (hW : Below w.heap.size w W) => (show Calls Tryz.prog 22 #[.pointer (some ⟨g, 0, none⟩), .int .i64 (c : Int)] W fun e w' => e = .returned (.int .i64 (v : Int)) ∧ W = w' from by
    have := vertex_any g n (facI T (x, y)) T W (hT.below hW).toTabS
    rw [hve, hce] at this
    exact this))
  have HI := Lib.hid (fun (W : World) (hW : WayAt W base g b (.slice (some ⟨gC, 0, none⟩) n capC) (.slice (some ⟨gl, 0, none⟩) m cap) (.slice aW s.wait.length cW) vs n s) => (show Calls Tryz.prog 96 #[.slice (some ⟨gl, 0, none⟩) m cap, .int .i64 (v : Int)] W fun e w' => e = .returned (.int .i64 (Lib.idxOf s.loop (v : Int))) ∧ w' = W from by
    have h2 := hW.L
    have h3 : s.loop.length = m := by rw [hl]; exact hm
    rw [h3] at h2
    have := Tryz.slices_Index_int gl 0 m cap s.loop (v : Int) W (Nat.le_of_eq h3.symm) (by omega) (fun j hj => by
      rw [Nat.zero_add, h2.cellAt j (by rw [Nat.mul_one, ← h3]; exact hj)]
      simp [intsV, List.getD, List.getElem?_eq_getElem hj])
    rw [show s.loop.take m = s.loop from List.take_of_length_le (by omega)] at this
    exact this))
  rw [hve] at hv hi ⊢
  rw [hce] at HF ⊢
  rw [hm2]
  obtain ⟨wl, hwe⟩ : ∃ wl, s.wait.length = wl := ⟨_, rfl⟩
  rw [hwe] at hwl c3 h HI ⊢
  have H := Lib.hid h
  have HL := Lib.hid hl
  have HM := Lib.hid hm
  have HWE := Lib.hid hwe
  have hm3 : m ≤ 50002 := by omega
  have hm4 : 2 ≤ m := by omega
  have HIX := Lib.hid hi
  have n3 : ((m : Int) == 3) = false := by simp; omega
  have n5 : ((i : Int) == (m : Int) - 1) = false := by simp; omega
  have n5b : ((i : Int) == 2) = false := by simp; omega
  have n4 : 3 < m := by omega
  have n6 : (i : Int) < (cap : Int) := by omega
  have n7 : 0 < m := by omega
  have n8 : i < cap := by omega
  have n9 : (i : Int) ≤ (m : Int) := by omega
  have n10 : ¬ cap = i := by omega
  have n11 : (1 : Int) ≤ (i : Int) := by omega
  have n12 : ¬ cap = 1 := by omega
  have n13 : (i : Int) ≤ (cap : Int) := by omega
  have n14 : (0 : Int) ≤ (i : Int) := by omega
  have him : i < m := by omega
  have HLM := Lib.hid (show s.loop.length = m from by rw [hl]; exact hm)
  obtain ⟨i2, hj', hz0, hz1, hz2⟩ := info_parts infoInt9
  obtain ⟨i3, hj3, hy0, hy1, hy2⟩ := info_parts infoInts9
  have f3 : wl + 1 ≤ maxLen := by unfold maxLen; omega
  have f4 : (wl + 1) * 24 ≤ 140737488355328 := by omega
  clear hi hi3
  clear h hT hl hL hs0 hm hm2 hlen hce hcl hvb hve hC hbs hbv hv hc hwe
  go_enter Tryz.func66, Tryz.ntmps66
  go_wp2
  have hA := H.out.alloc (.cells #[.int .u8 0, .int .i64 0, .int .i64 0, .int .i64 0] 82)
  have hB0 : Below w.heap.size w (w.alloc (.cells #[.int .u8 0, .int .i64 0, .int .i64 0, .int .i64 0] 82)) := (Below.refl _ _).alloc (Nat.le_refl _) _
  have b0 := Blk.new w 82 #[.int .u8 0, .int .i64 0, .int .i64 0, .int .i64 0]
  have hszA : w.heap.size < (w.alloc (.cells #[.int .u8 0, .int .i64 0, .int .i64 0, .int .i64 0] 82)).heap.size := by simp
  generalize w.alloc (.cells #[.int .u8 0, .int .i64 0, .int .i64 0, .int .i64 0] 82) = wA at *
  obtain ⟨lb', c0', c1', c2', c3', -⟩ := four hA.blk
  have l0' := (hB0.cell (p := ⟨gl, 0, none⟩) hgl).trans l0
  have l1' := (hB0.cell (p := ⟨gl, 1, none⟩) hgl).trans l1
  have HA := Lib.hid hA
  have HB0 := Lib.hid hB0
  have Hb0 := Lib.hid b0
  clear hA hB0 b0
  have i0 : (0 : Int) < (m : Int) := by omega
  have i1 : (1 : Int) < (m : Int) := by omega
  have d0 := cell_regrown c0'
  have d2 := cell_regrown c2'
  have q0 := cell_regrown l0'
  have q1 := cell_regrown l1'
  refine wp_region_quiet_below (by kernel_rfl) (by kernel_rfl) ?_
  repeat (go_big_quiet_step ((go_at_call 69; exact Calls.regrown_of (HF.out _ (HB0.out.trans ((below_regrown wA _ _).mono HB0.out.size))))))
  refine wpQuiet_nil ?_
  intro _ hw'
  obtain ⟨⟨dq, osq⟩, hw''⟩ := hw'
  subst hw''
  have hB1 := below_regrown wA dq osq
  generalize Sort.grow (redrawn wA dq) osq = w1 at *
  have hA1 := HA.out.below hB1
  obtain ⟨lb1, x0, x1, x2, x3, y2, y3⟩ := four hA1.blk
  have HA1 := Lib.hid hA1
  have hB2 := HB0.out.trans (hB1.mono HB0.out.size)
  have cv1 := (hB2.cell (p := ⟨gC, v, none⟩) hgC).trans cv
  have lx1 := (hB2.cell (p := ⟨gl, 0, none⟩) hgl).trans l0
  have hsz1 := hB1.size
  have hgC1 : gC < w1.heap.size := by omega
  have hgl1 : gl < w1.heap.size := by omega
  have HB1 := Lib.hid hB1
  have HB2 := Lib.hid hB2
  have HA2 := Lib.hid (HA1.out.alloc (.cells #[.int .u8 0, .int .i64 (c : Int), .int .i64 (wl : Int), .int .i64 (m : Int)] 82))
  have hbbN : base ≤ w.heap.size := H.out.ble
  have k1 : b ≠ w.heap.size := fun e => by have := lb; omega
  have k2 : b ≠ w1.heap.size := by omega
  have k3 : w.heap.size ≠ w1.heap.size := by omega
  clear hA1 hB1 hB2 d0 d2 q0 q1 c0' c2' l0' l1' c1' c3'
  have A2 := HA1.out.alloc (.cells #[.int .u8 83, .int .i64 (c : Int), .int .i64 (wl : Int), .int .i64 (m : Int)] 82)
  have bS := Blk.new w1 82 #[.int .u8 83, .int .i64 (c : Int), .int .i64 (wl : Int), .int .i64 (m : Int)]
  have bR := (Hb0.out.below HB1.out hszA).alloc (.cells #[.int .u8 83, .int .i64 (c : Int), .int .i64 (wl : Int), .int .i64 (m : Int)] 82)
  have hBS : Kept (OwnA b (.slice (some ⟨gC, 0, none⟩) n capC) (.slice (some ⟨gl, 0, none⟩) m cap) (.slice aW wl cW) vs) w (w1.alloc (.cells #[.int .u8 83, .int .i64 (c : Int), .int .i64 (wl : Int), .int .i64 (m : Int)] 82)) := (Kept.of HB2.out).alloc _
  have hszS : w1.heap.size < (w1.alloc (.cells #[.int .u8 83, .int .i64 (c : Int), .int .i64 (wl : Int), .int .i64 (m : Int)] 82)).heap.size := by simp
  have HA2S := Lib.hid A2
  have HbS := Lib.hid bS
  have HbR := Lib.hid bR
  have HBS := Lib.hid hBS
  clear A2 bS bR hBS
  go_wp2_with (first | (go_at_call 22; refine (HV.out _ HB2.out).mono ?_; rintro e w2 ⟨rfl, rfl⟩) | (go_at_call 96; refine (HI.out _ HA2.out).mono ?_; rintro e w2 ⟨rfl, rfl⟩; rw [HIX.out]))
  generalize w1.alloc (.cells #[.int .u8 83, .int .i64 (c : Int), .int .i64 (wl : Int), .int .i64 (m : Int)] 82) = wS at *
  obtain ⟨lbS, e0, e1, e2, e3, e4, e5⟩ := four HA2S.out.blk
  have A3 := (HA2S.out.alloc (.cells #[.int .i64 (v : Int)] 3)).drew
  have bT : Blk ((wS.alloc (.cells #[.int .i64 (v : Int)] 3)).drew) wS.heap.size 3 #[.int .i64 (v : Int)] := (Blk.new _ _ _).drew
  have hbS := HA2S.out.ble
  have HT1 := Lib.hid (own_one (base := base) bT hbS)
  have HP := Lib.hid (A3.part HLM.out 1 (i - 1) (by omega))
  have HNl := Lib.hid (show (((s.loop.drop 1).take (i - 1)).map (Value.int .i64)).length = (i - 1) * 1 from by have := HLM.out; simp; omega)
  have c6 : 1 + (i - 1) ≤ maxLen := by unfold maxLen; omega
  have c7 : (1 + (i - 1)) * 8 ≤ 140737488355328 := by omega
  have hB03 : Below wS.heap.size wS ((wS.alloc (.cells #[.int .i64 (v : Int)] 3)).drew) := ((Below.refl _ _).alloc (Nat.le_refl _) _).drew
  have HB03 := Lib.hid hB03
  clear A3 bT hB03
  go_cut [] (fun W => SMid w base g b n w1.heap.size (.slice (some ⟨gC, 0, none⟩) n capC) (.slice (some ⟨gl, 0, none⟩) m cap) (.slice aW wl cW) vs ⟨s.come, s.loop, s.wait ++ [(v : Int) :: (y :: r).take (i - 1)]⟩ #[.int .u8 83, .int .i64 (c : Int), .int .i64 (wl : Int), .int .i64 (m : Int)] W)
  case first =>
    go_region_law (first
      | (refine step_append_lies _ rfl (.tmp 92) (.tmp 98) 30 rfl base 3 i2 _ 1 8 Tryz.underlying30 hj' hz0 hz1 hz2 rfl (by decide) (.slice (some ⟨wS.heap.size, 0, none⟩) 1 1) 1 [.int .i64 (v : Int)] rfl HT1.out ⟨gl, 1, none⟩ (i - 1) (cap - 1) (((s.loop.drop 1).take (i - 1)).map (Value.int .i64)) rfl HNl.out HP.out cells_int (by omega) c6 c7 (by simp; omega) (wS.heap.size + 1) (by simp) ?_; intro g4 cap4 w4 hr4 hg4 hat4 hlt4; have hb4 := HB03.out.trans (below_of_grown hg4 (by simp) (fun j e => Nat.le_of_eq (Option.some.inj e))); have h4w := HA2S.out.below hb4; obtain ⟨lb4, z0, z1, z2, z3, u2, u3⟩ := four h4w.blk; have HB4 := Lib.hid hb4; have HR4 := Lib.hid hr4; have HAT4 := Lib.hid hat4; have H4W := Lib.hid h4w; have H4A := Lib.hid (h4w.W.alloc (.cells #[.slice (some ⟨g4, 0, none⟩) (1 + (i - 1)) cap4] 30)); have hbl4 := h4w.ble; clear hg4 hr4 hat4 hb4 h4w)
      | (refine step_append_lies _ rfl (.tmp 90) (.tmp 100) 89 rfl base 30 i3 _ 1 24 Tryz.underlying89 hj3 hy0 hy1 hy2 rfl (by decide) (.slice aW wl cW) wl vs rfl (by have h1 := H4A.out; rw [HWE.out] at h1; exact h1) ⟨w4.heap.size, 0, none⟩ 1 1 [.slice (some ⟨g4, 0, none⟩) (1 + (i - 1)) cap4] rfl rfl (World.news_of_block (heap_alloc_new _ _)) (by simp [Value.oneCell']) (by decide) f3 f4 (by simp; omega) (w4.heap.size + 1) (by simp) ?_; intro g5 cap5 w5 hr5 hg5 hat5 hlt5; have b5 := (H4W.out.blk.alloc (.cells #[.slice (some ⟨g4, 0, none⟩) (1 + (i - 1)) cap4] 30)).grown hg5 (fun e => own_blk_ne H4W.out.W H4W.out.blk (by decide) e.symm); obtain ⟨lb5, y0, y1, y2, y3, v2, v3⟩ := four b5; have HR5 := Lib.hid hr5; have HG5 := Lib.hid hg5; have HAT5 := Lib.hid hat5; clear b5 hr5 hg5 hat5))
    all_goals
      go_wp2_with fail
      go_meet
      have e6 : 1 + (i - 1) = ((v : Int) :: (y :: r).take (i - 1)).length := by have := HLM.out; rw [HL.out] at this; simp at this ⊢; omega
      have e7 : [Value.int .i64 (v : Int)] ++ ((s.loop.drop 1).take (i - 1)).map (Value.int .i64) = intsV ((v : Int) :: (y :: r).take (i - 1)) := by
        rw [HL.out]
        simp [intsV]
      have hr4 := HR4.out
      rw [e6, e7] at hr4
      have hr5 := HR5.out
      have hg5 := HG5.out
      rw [e6] at hr5 hg5
      have hB5 := HA2S.out.rewait (v5 := .slice (some ⟨g5, 0, none⟩) (wl + 1) cap5) HB4.out hr4 rfl (by
        rcases HAT4.out with e | e
        · exact Nat.le_of_eq (Option.some.inj e)
        · exact (by omega : wS.heap.size ≤ g4)) hg5 (by rw [HWE.out]; exact hr5)
      rw [← e6] at hB5
      have s4 := (HbS.out.below HB4.out HbS.out.lt).alloc (.cells #[.slice (some ⟨g4, 0, none⟩) (1 + (i - 1)) cap4] 30)
      have s5 := (s4.grown HG5.out (fun e => own_blk_ne H4A.out s4 (by decide) e.symm)).far (p := ⟨b, 3, none⟩) (by simp only; omega) (.slice (some ⟨g5, 0, none⟩) (wl + 1) cap5)
      have t4 := (HbR.out.below HB4.out HbR.out.lt).alloc (.cells #[.slice (some ⟨g4, 0, none⟩) (1 + (i - 1)) cap4] 30)
      have t5 := (t4.grown HG5.out (fun e => own_blk_ne H4A.out t4 (by decide) e.symm)).far (p := ⟨b, 3, none⟩) (by simp only; omega) (.slice (some ⟨g5, 0, none⟩) (wl + 1) cap5)
      have hBw := (((HBS.out.trans (Kept.of HB4.out)).alloc (.cells #[.slice (some ⟨g4, 0, none⟩) (1 + (i - 1)) cap4] 30)).grown HG5.out (fun j e => .inl (.inr (.inr (.inr (.inl e)))))).setCell (p := ⟨b, 3, none⟩) (.inl (.inl rfl)) (.slice (some ⟨g5, 0, none⟩) (wl + 1) cap5)
      have hwS := HBS.out.size
      have hw4 := HB4.out.size
      refine ⟨_, _, hB5, s5, t5, hBw, fun k hk => ?_⟩
      rcases hk with e | e | e | e | ⟨u, hu, e⟩
      · exact .inl (.inl e)
      · exact .inl (.inr (.inl e))
      · exact .inl (.inr (.inr (.inl e)))
      · rcases HAT5.out with e2 | e2
        · exact .inl (.inr (.inr (.inr (.inl (e2.trans e)))))
        · have e3 : g5 = w4.heap.size + 1 := e2
          have e4 : g5 = k := Option.some.inj e
          exact .inr (by omega)
      · rcases List.mem_append.1 hu with hu | hu
        · exact .inl (.inr (.inr (.inr (.inr ⟨u, hu, e⟩))))
        · rw [List.mem_singleton.1 hu] at e
          have e4 : g4 = k := Option.some.inj e
          rcases HAT4.out with e2 | e2
          · have e3 : wS.heap.size = g4 := Option.some.inj e2
            exact .inr (by omega)
          · have e3 : g4 = wS.heap.size + 1 := e2
            exact .inr (by omega)
  case rest =>
    obtain ⟨vW5, vs5, hB5, s5, t5, hBw⟩ := hcut
    obtain ⟨aW5, cW5, rfl⟩ := ownsRow_slice hB5.W
    clear x0 x1 x2 x3 e0 e1 e2 e3 e4 e5
    rename World => wB
    obtain ⟨lbB, e0, e1, e2, e3, e4, e5⟩ := four hB5.blk
    obtain ⟨lsB, s0, s1, s2, s3, -⟩ := four s5
    obtain ⟨ltB, t0, t1, t2, t3, r2, r3⟩ := four t5
    have r0 := t5.frozen 0
    have r1 := t5.frozen 1
    have lx : wB.cell? ⟨gl, 0, none⟩ = some (.int .i64 x) := by
      have h2 := hB5.L
      simp only at h2
      rw [HLM.out, HL.out] at h2
      rw [h2.cellAt 0 (by omega)]
      rfl
    have lgl : gl < wB.heap.size := (hB5.L.lt gl rfl).2
    have A3 := (hB5.alloc (.cells #[.int .i64 x] 3)).drew
    have bT : Blk ((wB.alloc (.cells #[.int .i64 x] 3)).drew) wB.heap.size 3 #[.int .i64 x] := (Blk.new _ _ _).drew
    have hbB := hB5.ble
    have HT6 := Lib.hid (own_one (base := base) bT hbB)
    have HP6 := Lib.hid (A3.part HLM.out i (m - i) (by omega))
    have HN6 := Lib.hid (show (((s.loop.drop i).take (m - i)).map (Value.int .i64)).length = (m - i) * 1 from by have := HLM.out; simp; omega)
    have c8 : 1 + (m - i) ≤ maxLen := by unfold maxLen; omega
    have c9 : (1 + (m - i)) * 8 ≤ 140737488355328 := by omega
    have nb6 : some b ≠ some wB.heap.size := by simp; omega
    have ns6 : some w1.heap.size ≠ some wB.heap.size := by simp; omega
    have nt6 : some w.heap.size ≠ some wB.heap.size := by simp; omega
    have HA3 := Lib.hid A3
    have HB5 := Lib.hid hB5
    have HS5 := Lib.hid s5
    have HT5 := Lib.hid t5
    have HBW := Lib.hid hBw
    clear A3 bT hB5 s5 t5 hBw
    go_wp2
    go_region_law (first | (refine step_append_lies _ rfl (.tmp 111) (.tmp 117) 30 rfl base 3 i2 _ 1 8 Tryz.underlying30 hj' hz0 hz1 hz2 rfl (by decide) (.slice (some ⟨wB.heap.size, 0, none⟩) 1 1) 1 [.int .i64 x] rfl HT6.out ⟨gl, i, none⟩ (m - i) (cap - i) (((s.loop.drop i).take (m - i)).map (Value.int .i64)) rfl HN6.out HP6.out cells_int (by omega) c8 c9 (by simp; omega) (wB.heap.size + 1) (by simp) ?_; intro g6 cap6 w6 hr6 hg6 hat6 hlt6; have b6 := HA3.out.blk.grown hg6 nb6; obtain ⟨lb6, z0, z1, z2, z3, u2, u3⟩ := four b6; have s6 := (HS5.out.alloc (.cells #[.int .i64 x] 3)).drew.grown hg6 ns6; have t6 := (HT5.out.alloc (.cells #[.int .i64 x] 3)).drew.grown hg6 nt6; obtain ⟨ls6, a0, a1, a2, a3, -⟩ := four s6; obtain ⟨lt6, b0, b1, b2, b3, v2, v3⟩ := four t6; have v0 := t6.frozen 0; have v1 := t6.frozen 1; have HT6b := Lib.hid t6; have HG6 := Lib.hid hg6; have HR6 := Lib.hid hr6; have HAT6 := Lib.hid hat6; clear b6 s6 t6 hg6 hr6 hat6))
    all_goals
      go_wp2
      have e6 : 1 + (m - i) = (x :: (x :: y :: r).drop i).length := by have := HLM.out; rw [HL.out] at this; simp at this ⊢; omega
      have e7 : [Value.int .i64 x] ++ ((s.loop.drop i).take (m - i)).map (Value.int .i64) = intsV (x :: (x :: y :: r).drop i) := by
        have := HLM.out
        rw [HL.out] at this ⊢
        rw [List.take_of_length_le (by rw [List.length_drop]; omega)]
        simp [intsV]
      have hr6 := HR6.out
      rw [e6, e7] at hr6
      have A6 := HB5.out.reloop (l := x :: (x :: y :: r).drop i) (gGrown (gDrew (World.grownBy_alloc _ _ _)) HG6.out (fun j e => .inr (Nat.le_of_eq (Option.some.inj e)))) hr6 (.inr ⟨g6, rfl, by
        rcases HAT6.out with e | e
        · exact Nat.le_of_eq (Option.some.inj e)
        · omega⟩) (by simp)
      rw [← e6] at A6
      have hwB := HBW.out.kept.size
      have hB6 := ((HBW.out.kept.alloc (.cells #[.int .i64 x] 3)).drew).grown HG6.out (fun j e => .inr (by
        have : wB.heap.size = j := Option.some.inj e
        omega))
      have hO6 : ∀ k, OwnA b (.slice (some ⟨gC, 0, none⟩) n capC) (.slice (some ⟨g6, 0, none⟩) (1 + (m - i)) cap6) (.slice aW5 _ cW5) vs5 k → OwnA b (.slice (some ⟨gC, 0, none⟩) n capC) (.slice (some ⟨gl, 0, none⟩) m cap) (.slice aW wl cW) vs k ∨ w.heap.size ≤ k := fun k hk => by
        rcases own_reloop (vL := .slice (some ⟨gl, 0, none⟩) m cap) (z := w.heap.size) (.inr ⟨g6, rfl, by
          rcases HAT6.out with e | e
          · have e3 : wB.heap.size = g6 := Option.some.inj e
            omega
          · have e3 : g6 = wB.heap.size + 1 := e
            omega⟩) k hk with h1 | h1
        · exact HBW.out.own k h1
        · exact .inr h1
      obtain ⟨o1, o2, o3⟩ := A6.out4 (HT6b.out.far (p := ⟨b, 2, none⟩) (by simp only; omega) _) (hB6.setCell (p := ⟨b, 2, none⟩) (.inl (.inl rfl)) _) (Nat.le_refl _) (.int .u8 83) (.int .i64 (c : Int)) (.int .i64 (wl : Int)) (.int .i64 (m : Int))
      obtain ⟨-, p0, p1, p2, p3, -⟩ := four o2
      exact bodyPost_ret (v := .tuple #[.agg #[.int .u8 83, .int .i64 (c : Int), .int .i64 (wl : Int), .int .i64 (m : Int)], .bool true]) (by simp [results, Tryz.results66, go_sem, p0, p1, p2, p3]) rfl ⟨rfl, _, _, _, o1, o3, hO6⟩
end Go.Proofs.YtpnkhgjjlionnaaGreat
namespace Go.Proofs.YtpnkhgjjlionnaaGreat
open Go.RowKit Go.Maps

set_option maxRecDepth 100000 in
set_option maxHeartbeats 2000000 in
theorem stepE_any {w : World} {base g b n : Nat} {vC vL vW : Value} {vs : List Value} {s : WSt} {T : List Tr} (hT : Tab w g n T) (h : WayAt w base g b vC vL vW vs n s) {x y : Int} {r : List Int} (hl : s.loop = x :: y :: r)
    (hx : -1 ≤ x ∧ x ≤ 10000) (hy : -1 ≤ y ∧ y ≤ 10000) (hc : 0 ≤ facI T (x, y)) (hv : vertI T (facI T (x, y)) ∈ s.come) (_hlen : r.length ≤ 50000) (hwl : s.wait.length ≤ 50000) (h1 : r.length = 1) {ws : List (List Int)} {l' : List Int} (hws : s.wait = ws ++ [l']) (hl' : l' ≠ []) :
    Calls Tryz.prog 66 #[.pointer (some ⟨b, 0, none⟩)] w fun e w' => e = .returned (.tuple #[.agg #[.int .u8 69, .int .i64 (facI T (x, y)), .int .i64 s.wait.length, .int .i64 (r.length + 2 : Nat)], .bool true]) ∧
      (∃ vL' vW' vs', WayAt w' base g b vC vL' vW' vs' n ⟨s.come, l', ws⟩ ∧ Kind w w' b vC vL vW vs vL' vW' vs') := by
  have hL := h.L
  rw [hl] at hL
  obtain ⟨m, hm⟩ : ∃ m, (x :: y :: r).length = m := ⟨_, rfl⟩
  rw [hm] at hL
  have hm2 : r.length + 2 = m := hm
  obtain ⟨gl, cap, rfl, hgl, hcap, hcap2⟩ := own_form hL (by omega)
  obtain ⟨aW, cW, rfl⟩ := ownsRow_slice h.W
  obtain ⟨lb, c0, c1, c2, c3, f2, f3⟩ := four h.blk
  have hs0 : (intsV (x :: y :: r))[0]? = some (.int .i64 x) := rfl
  have l0 : w.cell? ⟨gl, 0, none⟩ = some (.int .i64 x) := by rw [hL.cellAt 0 (by omega)]; exact hs0
  have l1 : w.cell? ⟨gl, 1, none⟩ = some (.int .i64 y) := by rw [hL.cellAt 1 (by omega)]; rfl
  have hnil := fun (W : World) => Lib.run_eql_slice_nil (P := Tryz.prog) W 30 3 (some ⟨gl, 0, none⟩) m cap 0 0 Tryz.underlying30
  obtain ⟨c, hce⟩ : ∃ c : Nat, facI T (x, y) = (c : Int) := ⟨(facI T (x, y)).toNat, by omega⟩
  have hcl := (facI_some hce).1
  have hvb := vertN_in hT.inr hcl
  obtain ⟨v, hve⟩ : ∃ v : Nat, vertI T (facI T (x, y)) = (v : Int) := ⟨(vertN T c).toNat, by rw [hce, vertI_nat hcl]; omega⟩
  have hvn : v < n := by rw [hce, vertI_nat hcl] at hve; omega
  obtain ⟨bs, hC, hbs⟩ := h.C
  obtain ⟨gC, capC, rfl, hgC, hcC, -⟩ := own_form hC (by omega)
  have hbv : bs[v]? = some true := (hbs.2 v hvn).2 (by rw [← hve]; exact hv)
  have cv : w.cell? ⟨gC, v, none⟩ = some (.bool true) := by
    rw [hC.cellAt v (by omega)]
    simp [bools, hbv]
  have HF := Lib.hid (fun (W : World) (hW : Below w.heap.size w W) => facing_any g n x y T W (hT.below hW) hx hy)
  have HV := Lib.hid (fun (W : World) (hW : Below w.heap.size w W) => (show Calls Tryz.prog 22 #[.pointer (some ⟨g, 0, none⟩), .int .i64 (c : Int)] W fun e w' => e = .returned (.int .i64 (v : Int)) ∧ W = w' from by
    have := vertex_any g n (facI T (x, y)) T W (hT.below hW).toTabS
    rw [hve, hce] at this
    exact this))
  have HI := Lib.hid (fun (W : World) (hW : WayAt W base g b (.slice (some ⟨gC, 0, none⟩) n capC) (.slice (some ⟨gl, 0, none⟩) m cap) (.slice aW s.wait.length cW) vs n s) => (show Calls Tryz.prog 96 #[.slice (some ⟨gl, 0, none⟩) m cap, .int .i64 (v : Int)] W fun e w' => e = .returned (.int .i64 (Lib.idxOf s.loop (v : Int))) ∧ w' = W from by
    have h2 := hW.L
    have h3 : s.loop.length = m := by rw [hl]; exact hm
    rw [h3] at h2
    have := Tryz.slices_Index_int gl 0 m cap s.loop (v : Int) W (Nat.le_of_eq h3.symm) (by omega) (fun j hj => by
      rw [Nat.zero_add, h2.cellAt j (by rw [Nat.mul_one, ← h3]; exact hj)]
      simp [intsV, List.getD, List.getElem?_eq_getElem hj])
    rw [show s.loop.take m = s.loop from List.take_of_length_le (by omega)] at this
    exact this))
  rw [hve] at hv
  rw [hce] at HF ⊢
  rw [hm2]
  obtain ⟨wl, hwe⟩ : ∃ wl, s.wait.length = wl := ⟨_, rfl⟩
  rw [hwe] at hwl c3 h HI ⊢
  have H := Lib.hid h
  have HL := Lib.hid hl
  have HM := Lib.hid hm
  have HWE := Lib.hid hwe
  have hm3 : m ≤ 50002 := by omega
  have hm4 : 2 ≤ m := by omega
  obtain ⟨zI, HIX0⟩ : ∃ z, Lib.idxOf s.loop (v : Int) = z := ⟨_, rfl⟩
  have HIX := Lib.hid HIX0
  have n3 : ((m : Int) == 3) = true := by simp; omega
  clear HIX0 h1
  obtain ⟨k, hk⟩ : ∃ k, ws.length = k := ⟨_, rfl⟩
  have hwk : wl = k + 1 := by rw [← hwe, hws]; simp [hk]
  subst hwk
  obtain ⟨vs', u, hvs⟩ : ∃ vs' u, vs = vs' ++ [u] := by
    have hvl := h.vlen
    rcases List.eq_nil_or_concat vs with e | ⟨a, c, e⟩
    · rw [e, hws] at hvl
      simp at hvl
    · exact ⟨a, c, by rw [e]; simp⟩
  subst hvs
  have hvl : vs'.length = k := by
    have := h.vlen
    rw [hws] at this
    simp at this
    omega
  have hW := h.W
  rw [hwe] at hW
  obtain ⟨gW, capW, eW, hgW, hkW, hcW⟩ := own_form hW (by omega)
  injection eW with eW1 _ eW3
  subst eW1 eW3
  have cu : w.cell? ⟨gW, k, none⟩ = some u := by
    rw [hW.cellAt k (by omega), ← hvl]
    simp
  obtain ⟨aU, nU, cU, rfl⟩ : ∃ a n c, u = .slice a n c := by
    obtain ⟨a, c, e⟩ := ownsRow_slice (h.rows vs'.length u l' (by simp) (by rw [hws, hvl, ← hk]; simp))
    exact ⟨a, _, c, e⟩
  have nWb : gW ≠ b := fun e => own_blk_ne hW h.blk (by decide) (by rw [← e]; rfl)
  have nbW : b ≠ gW := fun e => nWb e.symm
  have HWS := Lib.hid hws
  have HK := Lib.hid hk
  have HL2 := Lib.hid hl'
  clear hws hk hl' hW hvl
  clear h hT hl hL hs0 hm hm2 hce hcl hvb hve hC hbs hbv hv hc hwe
  go_enter Tryz.func66, Tryz.ntmps66
  go_wp2
  have hA := H.out.alloc (.cells #[.int .u8 0, .int .i64 0, .int .i64 0, .int .i64 0] 82)
  have hB0 : Below w.heap.size w (w.alloc (.cells #[.int .u8 0, .int .i64 0, .int .i64 0, .int .i64 0] 82)) := (Below.refl _ _).alloc (Nat.le_refl _) _
  have b0 := Blk.new w 82 #[.int .u8 0, .int .i64 0, .int .i64 0, .int .i64 0]
  have hszA : w.heap.size < (w.alloc (.cells #[.int .u8 0, .int .i64 0, .int .i64 0, .int .i64 0] 82)).heap.size := by simp
  generalize w.alloc (.cells #[.int .u8 0, .int .i64 0, .int .i64 0, .int .i64 0] 82) = wA at *
  obtain ⟨lb', c0', c1', c2', c3', -⟩ := four hA.blk
  have l0' := (hB0.cell (p := ⟨gl, 0, none⟩) hgl).trans l0
  have l1' := (hB0.cell (p := ⟨gl, 1, none⟩) hgl).trans l1
  have HA := Lib.hid hA
  have HB0 := Lib.hid hB0
  have Hb0 := Lib.hid b0
  clear hA hB0 b0
  have i0 : (0 : Int) < (m : Int) := by omega
  have i1 : (1 : Int) < (m : Int) := by omega
  have d0 := cell_regrown c0'
  have d2 := cell_regrown c2'
  have q0 := cell_regrown l0'
  have q1 := cell_regrown l1'
  refine wp_region_quiet_below (by kernel_rfl) (by kernel_rfl) ?_
  repeat (go_big_quiet_step ((go_at_call 69; exact Calls.regrown_of (HF.out _ (HB0.out.trans ((below_regrown wA _ _).mono HB0.out.size))))))
  refine wpQuiet_nil ?_
  intro _ hw'
  obtain ⟨⟨dq, osq⟩, hw''⟩ := hw'
  subst hw''
  have hB1 := below_regrown wA dq osq
  generalize Sort.grow (redrawn wA dq) osq = w1 at *
  have hA1 := HA.out.below hB1
  obtain ⟨lb1, x0, x1, x2, x3, y2, y3⟩ := four hA1.blk
  have HA1 := Lib.hid hA1
  have hB2 := HB0.out.trans (hB1.mono HB0.out.size)
  have cv1 := (hB2.cell (p := ⟨gC, v, none⟩) hgC).trans cv
  have lx1 := (hB2.cell (p := ⟨gl, 0, none⟩) hgl).trans l0
  have hsz1 := hB1.size
  have hgC1 : gC < w1.heap.size := by omega
  have hgl1 : gl < w1.heap.size := by omega
  have HB1 := Lib.hid hB1
  have HB2 := Lib.hid hB2
  have HA2 := Lib.hid (HA1.out.alloc (.cells #[.int .u8 0, .int .i64 (c : Int), .int .i64 ((k : Int) + 1), .int .i64 (m : Int)] 82))
  have hbbN : base ≤ w.heap.size := H.out.ble
  have k1 : b ≠ w.heap.size := fun e => by have := lb; omega
  have k2 : b ≠ w1.heap.size := by omega
  have k3 : w.heap.size ≠ w1.heap.size := by omega
  clear hA1 hB1 hB2 d0 d2 q0 q1 c0' c2' l0' l1' c1' c3'
  have cu1 := (HB2.out.cell (p := ⟨gW, k, none⟩) hgW).trans cu
  have hgW1 : gW < w1.heap.size := by omega
  have j0 : (0 : Int) ≤ (k : Int) := by omega
  have j1 : (k : Int) < (k : Int) + 1 := by omega
  have j2 : (k : Int) ≤ (cW : Int) := by omega
  have j3 : k < k + 1 := by omega
  go_wp2_with (first | (go_at_call 22; refine (HV.out _ HB2.out).mono ?_; rintro e w2 ⟨rfl, rfl⟩) | (go_at_call 96; refine (HI.out _ HA2.out).mono ?_; rintro e w2 ⟨rfl, rfl⟩; rw [HIX.out]))
  have bW : Blk ((w1.setCell ⟨b, 2, none⟩ (.slice none 0 0)).alloc (.cells #[.int .u8 69, .int .i64 (c : Int), .int .i64 ((k : Int) + 1), .int .i64 (m : Int)] 82)) b 154 #[.pointer (some ⟨g, 0, none⟩), .slice (some ⟨gC, 0, none⟩) n capC, .slice none 0 0, .slice (some ⟨gW, 0, none⟩) (k + 1) cW] := by
    have := (HA1.out.blk.set_ 2 (.slice none 0 0)).alloc (.cells #[.int .u8 69, .int .i64 (c : Int), .int .i64 ((k : Int) + 1), .int .i64 (m : Int)] 82)
    simpa using this
  have bS : Blk ((w1.setCell ⟨b, 2, none⟩ (.slice none 0 0)).alloc (.cells #[.int .u8 69, .int .i64 (c : Int), .int .i64 ((k : Int) + 1), .int .i64 (m : Int)] 82)) w1.heap.size 82 #[.int .u8 69, .int .i64 (c : Int), .int .i64 ((k : Int) + 1), .int .i64 (m : Int)] := blk_new_at (by simp [World.setCell])
  have bR : Blk ((w1.setCell ⟨b, 2, none⟩ (.slice none 0 0)).alloc (.cells #[.int .u8 69, .int .i64 (c : Int), .int .i64 ((k : Int) + 1), .int .i64 (m : Int)] 82)) w.heap.size 82 #[.int .u8 0, .int .i64 0, .int .i64 0, .int .i64 0] := ((Hb0.out.below HB1.out hszA).far (p := ⟨b, 2, none⟩) (by simp only; omega) _).alloc _
  have hBE : Kept (OwnA b (.slice (some ⟨gC, 0, none⟩) n capC) (.slice (some ⟨gl, 0, none⟩) m cap) (.slice (some ⟨gW, 0, none⟩) (k + 1) cW) (vs' ++ [.slice aU nU cU])) w ((w1.setCell ⟨b, 2, none⟩ (.slice none 0 0)).alloc (.cells #[.int .u8 69, .int .i64 (c : Int), .int .i64 ((k : Int) + 1), .int .i64 (m : Int)] 82)) := ((Kept.of HB2.out).setCell (p := ⟨b, 2, none⟩) (.inl (.inl rfl)) _).alloc _
  have hGE : w1.grownBy ((w1.setCell ⟨b, 2, none⟩ (.slice none 0 0)).alloc (.cells #[.int .u8 69, .int .i64 (c : Int), .int .i64 ((k : Int) + 1), .int .i64 (m : Int)] 82)) (some b) := gAlloc (gStR (World.grownBy.refl _ _)) _
  have cuE : ((w1.setCell ⟨b, 2, none⟩ (.slice none 0 0)).alloc (.cells #[.int .u8 69, .int .i64 (c : Int), .int .i64 ((k : Int) + 1), .int .i64 (m : Int)] 82)).cell? ⟨gW, k, none⟩ = some (.slice aU nU cU) := hGE.cell cu1 (by simpa using nWb)
  have hszE : w1.heap.size < ((w1.setCell ⟨b, 2, none⟩ (.slice none 0 0)).alloc (.cells #[.int .u8 69, .int .i64 (c : Int), .int .i64 ((k : Int) + 1), .int .i64 (m : Int)] 82)).heap.size := by simp [World.setCell]
  generalize (w1.setCell ⟨b, 2, none⟩ (.slice none 0 0)).alloc (.cells #[.int .u8 69, .int .i64 (c : Int), .int .i64 ((k : Int) + 1), .int .i64 (m : Int)] 82) = wE at *
  obtain ⟨lbE, e0, e1, e2, e3, e4, e5⟩ := four bW
  obtain ⟨lsE, s0, s1, s2, s3, -⟩ := four bS
  obtain ⟨ltE, t0, t1, t2, t3, r2, r3⟩ := four bR
  have r0 := bR.frozen 0
  have r1 := bR.frozen 1
  have lgE : gW < wE.heap.size := by omega
  have HbW := Lib.hid bW
  have HbS := Lib.hid bS
  have HbR := Lib.hid bR
  have HBE := Lib.hid hBE
  have HGE := Lib.hid hGE
  clear bW bS bR hBE hGE x0 x1 x2 x3 y2 y3 cv1 cu1 lx1 cu cv l0 l1 c0 c1 c2 c3 f2 f3
  go_region
  have bW5 : Blk (((wE.setCell ⟨b, 2, none⟩ (.slice aU nU cU)).setCell ⟨b, 3, none⟩ (.slice (some ⟨gW, 0, none⟩) k cW)).drew) b 154 #[.pointer (some ⟨g, 0, none⟩), .slice (some ⟨gC, 0, none⟩) n capC, .slice aU nU cU, .slice (some ⟨gW, 0, none⟩) k cW] := by
    have := (((HbW.out.set_ 2 (.slice aU nU cU)).set_ 3 (.slice (some ⟨gW, 0, none⟩) k cW))).drew
    simpa using this
  have A5 := HA1.out.pop rfl HWS.out rfl HK.out HL2.out (gDrew (gStR (gStR HGE.out))) bW5
  have hO5 : ∀ q, OwnA b (.slice (some ⟨gC, 0, none⟩) n capC) (.slice aU nU cU) (.slice (some ⟨gW, 0, none⟩) k cW) vs' q → OwnA b (.slice (some ⟨gC, 0, none⟩) n capC) (.slice (some ⟨gl, 0, none⟩) m cap) (.slice (some ⟨gW, 0, none⟩) (k + 1) cW) (vs' ++ [.slice aU nU cU]) q ∨ w.heap.size ≤ q := fun q hq => by
    rcases hq with e | e | e | e | ⟨u, hu, e⟩
    · exact .inl (.inl e)
    · exact .inl (.inr (.inl e))
    · exact .inl (.inr (.inr (.inr (.inr ⟨_, by simp, e⟩))))
    · exact .inl (.inr (.inr (.inr (.inl e))))
    · exact .inl (.inr (.inr (.inr (.inr ⟨u, List.mem_append_left _ hu, e⟩))))
  have bR5 := ((HbR.out.far (p := ⟨b, 2, none⟩) (by simp only; omega) (.slice aU nU cU)).far (p := ⟨b, 3, none⟩) (by simp only; omega) (.slice (some ⟨gW, 0, none⟩) k cW)).drew
  have bS5 := ((HbS.out.far (p := ⟨b, 2, none⟩) (by simp only; omega) (.slice aU nU cU)).far (p := ⟨b, 3, none⟩) (by simp only; omega) (.slice (some ⟨gW, 0, none⟩) k cW)).drew
  have hB5 := ((HBE.out.setCell (p := ⟨b, 2, none⟩) (.inl (.inl rfl)) (.slice aU nU cU)).setCell (p := ⟨b, 3, none⟩) (.inl (.inl rfl)) (.slice (some ⟨gW, 0, none⟩) k cW)).drew
  generalize (((wE.setCell ⟨b, 2, none⟩ (.slice aU nU cU)).setCell ⟨b, 3, none⟩ (.slice (some ⟨gW, 0, none⟩) k cW)).drew) = wF at *
  clear s0 s1 s2 s3 t0 t1 t2 t3 r0 r1 r2 r3 e0 e1 e2 e3 e4 e5 ltE lsE
  obtain ⟨lsE, s0, s1, s2, s3, -⟩ := four bS5
  obtain ⟨ltE, t0, t1, t2, t3, r2, r3⟩ := four bR5
  have r0 := bR5.frozen 0
  have r1 := bR5.frozen 1
  have HA5 := Lib.hid A5
  have HO5 := Lib.hid hO5
  have HB5 := Lib.hid hB5
  have HR5 := Lib.hid bR5
  clear A5 hO5 hB5 bR5 bS5 bW5 HbW HbR HbS HBE HGE HA1 HA2
  go_wp2
  obtain ⟨o1, o2, o3⟩ := HA5.out.out4 HR5.out HB5.out (Nat.le_refl _) (.int .u8 69) (.int .i64 (c : Int)) (.int .i64 ((k : Int) + 1)) (.int .i64 (m : Int))
  obtain ⟨-, p0, p1, p2, p3, -⟩ := four o2
  exact bodyPost_ret (v := .tuple #[.agg #[.int .u8 69, .int .i64 (c : Int), .int .i64 ((k : Int) + 1), .int .i64 (m : Int)], .bool true]) (by simp [results, Tryz.results66, go_sem, p0, p1, p2, p3]) rfl ⟨rfl, _, _, _, o1, o3, HO5.out⟩
end Go.Proofs.YtpnkhgjjlionnaaGreat
namespace Go.Proofs.YtpnkhgjjlionnaaGreat
open Go.RowKit Go.Maps

set_option maxRecDepth 100000 in
set_option maxHeartbeats 2000000 in
theorem stepF_any {w : World} {base g b n : Nat} {vC vL vW : Value} {vs : List Value} {s : WSt} {T : List Tr} (hT : Tab w g n T) (h : WayAt w base g b vC vL vW vs n s) {x y : Int} {r : List Int} (hl : s.loop = x :: y :: r)
    (hx : -1 ≤ x ∧ x ≤ 10000) (hy : -1 ≤ y ∧ y ≤ 10000) (hc : 0 ≤ facI T (x, y)) (hv : vertI T (facI T (x, y)) ∈ s.come) (_hlen : r.length ≤ 50000) (hwl : s.wait.length ≤ 50000) (h1 : r.length = 1) (hws : s.wait = []) :
    Calls Tryz.prog 66 #[.pointer (some ⟨b, 0, none⟩)] w fun e w' => e = .returned (.tuple #[.agg #[.int .u8 69, .int .i64 (facI T (x, y)), .int .i64 s.wait.length, .int .i64 (r.length + 2 : Nat)], .bool true]) ∧
      (∃ vW', Blk w' b 154 #[.pointer (some ⟨g, 0, none⟩), vC, .slice none 0 0, vW'] ∧ Kept (OwnA b vC vL vW vs) w w') := by
  have hL := h.L
  rw [hl] at hL
  obtain ⟨m, hm⟩ : ∃ m, (x :: y :: r).length = m := ⟨_, rfl⟩
  rw [hm] at hL
  have hm2 : r.length + 2 = m := hm
  obtain ⟨gl, cap, rfl, hgl, hcap, hcap2⟩ := own_form hL (by omega)
  obtain ⟨aW, cW, rfl⟩ := ownsRow_slice h.W
  obtain ⟨lb, c0, c1, c2, c3, f2, f3⟩ := four h.blk
  have hs0 : (intsV (x :: y :: r))[0]? = some (.int .i64 x) := rfl
  have l0 : w.cell? ⟨gl, 0, none⟩ = some (.int .i64 x) := by rw [hL.cellAt 0 (by omega)]; exact hs0
  have l1 : w.cell? ⟨gl, 1, none⟩ = some (.int .i64 y) := by rw [hL.cellAt 1 (by omega)]; rfl
  have hnil := fun (W : World) => Lib.run_eql_slice_nil (P := Tryz.prog) W 30 3 (some ⟨gl, 0, none⟩) m cap 0 0 Tryz.underlying30
  obtain ⟨c, hce⟩ : ∃ c : Nat, facI T (x, y) = (c : Int) := ⟨(facI T (x, y)).toNat, by omega⟩
  have hcl := (facI_some hce).1
  have hvb := vertN_in hT.inr hcl
  obtain ⟨v, hve⟩ : ∃ v : Nat, vertI T (facI T (x, y)) = (v : Int) := ⟨(vertN T c).toNat, by rw [hce, vertI_nat hcl]; omega⟩
  have hvn : v < n := by rw [hce, vertI_nat hcl] at hve; omega
  obtain ⟨bs, hC, hbs⟩ := h.C
  obtain ⟨gC, capC, rfl, hgC, hcC, -⟩ := own_form hC (by omega)
  have hbv : bs[v]? = some true := (hbs.2 v hvn).2 (by rw [← hve]; exact hv)
  have cv : w.cell? ⟨gC, v, none⟩ = some (.bool true) := by
    rw [hC.cellAt v (by omega)]
    simp [bools, hbv]
  have HF := Lib.hid (fun (W : World) (hW : Below w.heap.size w W) => facing_any g n x y T W (hT.below hW) hx hy)
  have HV := Lib.hid (fun (W : World) (hW : Below w.heap.size w W) => (show Calls Tryz.prog 22 #[.pointer (some ⟨g, 0, none⟩), .int .i64 (c : Int)] W fun e w' => e = .returned (.int .i64 (v : Int)) ∧ W = w' from by
    have := vertex_any g n (facI T (x, y)) T W (hT.below hW).toTabS
    rw [hve, hce] at this
    exact this))
  have HI := Lib.hid (fun (W : World) (hW : WayAt W base g b (.slice (some ⟨gC, 0, none⟩) n capC) (.slice (some ⟨gl, 0, none⟩) m cap) (.slice aW s.wait.length cW) vs n s) => (show Calls Tryz.prog 96 #[.slice (some ⟨gl, 0, none⟩) m cap, .int .i64 (v : Int)] W fun e w' => e = .returned (.int .i64 (Lib.idxOf s.loop (v : Int))) ∧ w' = W from by
    have h2 := hW.L
    have h3 : s.loop.length = m := by rw [hl]; exact hm
    rw [h3] at h2
    have := Tryz.slices_Index_int gl 0 m cap s.loop (v : Int) W (Nat.le_of_eq h3.symm) (by omega) (fun j hj => by
      rw [Nat.zero_add, h2.cellAt j (by rw [Nat.mul_one, ← h3]; exact hj)]
      simp [intsV, List.getD, List.getElem?_eq_getElem hj])
    rw [show s.loop.take m = s.loop from List.take_of_length_le (by omega)] at this
    exact this))
  rw [hve] at hv
  rw [hce] at HF ⊢
  rw [hm2]
  obtain ⟨wl, hwe⟩ : ∃ wl, s.wait.length = wl := ⟨_, rfl⟩
  rw [hwe] at hwl c3 h HI ⊢
  have H := Lib.hid h
  have HL := Lib.hid hl
  have HM := Lib.hid hm
  have HWE := Lib.hid hwe
  have hm3 : m ≤ 50002 := by omega
  have hm4 : 2 ≤ m := by omega
  obtain ⟨zI, HIX0⟩ : ∃ z, Lib.idxOf s.loop (v : Int) = z := ⟨_, rfl⟩
  have HIX := Lib.hid HIX0
  have n3 : ((m : Int) == 3) = true := by simp; omega
  clear HIX0 h1
  have hw0 : wl = 0 := by rw [← hwe, hws]; rfl
  subst hw0
  clear hws
  clear h hT hl hL hs0 hm hm2 hce hcl hvb hve hC hbs hbv hv hc hwe
  go_enter Tryz.func66, Tryz.ntmps66
  go_wp2
  have hA := H.out.alloc (.cells #[.int .u8 0, .int .i64 0, .int .i64 0, .int .i64 0] 82)
  have hB0 : Below w.heap.size w (w.alloc (.cells #[.int .u8 0, .int .i64 0, .int .i64 0, .int .i64 0] 82)) := (Below.refl _ _).alloc (Nat.le_refl _) _
  have b0 := Blk.new w 82 #[.int .u8 0, .int .i64 0, .int .i64 0, .int .i64 0]
  have hszA : w.heap.size < (w.alloc (.cells #[.int .u8 0, .int .i64 0, .int .i64 0, .int .i64 0] 82)).heap.size := by simp
  generalize w.alloc (.cells #[.int .u8 0, .int .i64 0, .int .i64 0, .int .i64 0] 82) = wA at *
  obtain ⟨lb', c0', c1', c2', c3', -⟩ := four hA.blk
  have l0' := (hB0.cell (p := ⟨gl, 0, none⟩) hgl).trans l0
  have l1' := (hB0.cell (p := ⟨gl, 1, none⟩) hgl).trans l1
  have HA := Lib.hid hA
  have HB0 := Lib.hid hB0
  have Hb0 := Lib.hid b0
  clear hA hB0 b0
  have i0 : (0 : Int) < (m : Int) := by omega
  have i1 : (1 : Int) < (m : Int) := by omega
  have d0 := cell_regrown c0'
  have d2 := cell_regrown c2'
  have q0 := cell_regrown l0'
  have q1 := cell_regrown l1'
  refine wp_region_quiet_below (by kernel_rfl) (by kernel_rfl) ?_
  repeat (go_big_quiet_step ((go_at_call 69; exact Calls.regrown_of (HF.out _ (HB0.out.trans ((below_regrown wA _ _).mono HB0.out.size))))))
  refine wpQuiet_nil ?_
  intro _ hw'
  obtain ⟨⟨dq, osq⟩, hw''⟩ := hw'
  subst hw''
  have hB1 := below_regrown wA dq osq
  generalize Sort.grow (redrawn wA dq) osq = w1 at *
  have hA1 := HA.out.below hB1
  obtain ⟨lb1, x0, x1, x2, x3, y2, y3⟩ := four hA1.blk
  have HA1 := Lib.hid hA1
  have hB2 := HB0.out.trans (hB1.mono HB0.out.size)
  have cv1 := (hB2.cell (p := ⟨gC, v, none⟩) hgC).trans cv
  have lx1 := (hB2.cell (p := ⟨gl, 0, none⟩) hgl).trans l0
  have hsz1 := hB1.size
  have hgC1 : gC < w1.heap.size := by omega
  have hgl1 : gl < w1.heap.size := by omega
  have HB1 := Lib.hid hB1
  have HB2 := Lib.hid hB2
  have HA2 := Lib.hid (HA1.out.alloc (.cells #[.int .u8 0, .int .i64 (c : Int), .int .i64 0, .int .i64 (m : Int)] 82))
  have hbbN : base ≤ w.heap.size := H.out.ble
  have k1 : b ≠ w.heap.size := fun e => by have := lb; omega
  have k2 : b ≠ w1.heap.size := by omega
  have k3 : w.heap.size ≠ w1.heap.size := by omega
  clear hA1 hB1 hB2 d0 d2 q0 q1 c0' c2' l0' l1' c1' c3'
  go_upto_region 28 with (first | (go_at_call 22; refine (HV.out _ HB2.out).mono ?_; rintro e w2 ⟨rfl, rfl⟩) | (go_at_call 96; refine (HI.out _ HA2.out).mono ?_; rintro e w2 ⟨rfl, rfl⟩; rw [HIX.out]))
  all_goals
    have bW : Blk ((w1.setCell ⟨b, 2, none⟩ (.slice none 0 0)).alloc (.cells #[.int .u8 69, .int .i64 (c : Int), .int .i64 0, .int .i64 (m : Int)] 82)) b 154 #[.pointer (some ⟨g, 0, none⟩), .slice (some ⟨gC, 0, none⟩) n capC, .slice none 0 0, .slice aW 0 cW] := by
      have := (HA1.out.blk.set_ 2 (.slice none 0 0)).alloc (.cells #[.int .u8 69, .int .i64 (c : Int), .int .i64 0, .int .i64 (m : Int)] 82)
      simpa using this
    have bS : Blk ((w1.setCell ⟨b, 2, none⟩ (.slice none 0 0)).alloc (.cells #[.int .u8 69, .int .i64 (c : Int), .int .i64 0, .int .i64 (m : Int)] 82)) w1.heap.size 82 #[.int .u8 69, .int .i64 (c : Int), .int .i64 0, .int .i64 (m : Int)] := blk_new_at (by simp [World.setCell])
    have bR : Blk ((w1.setCell ⟨b, 2, none⟩ (.slice none 0 0)).alloc (.cells #[.int .u8 69, .int .i64 (c : Int), .int .i64 0, .int .i64 (m : Int)] 82)) w.heap.size 82 #[.int .u8 0, .int .i64 0, .int .i64 0, .int .i64 0] := ((Hb0.out.below HB1.out hszA).far (p := ⟨b, 2, none⟩) (by simp only; omega) _).alloc _
    have hBE : Kept (OwnA b (.slice (some ⟨gC, 0, none⟩) n capC) (.slice (some ⟨gl, 0, none⟩) m cap) (.slice aW 0 cW) vs) w ((w1.setCell ⟨b, 2, none⟩ (.slice none 0 0)).alloc (.cells #[.int .u8 69, .int .i64 (c : Int), .int .i64 0, .int .i64 (m : Int)] 82)) := ((Kept.of HB2.out).setCell (p := ⟨b, 2, none⟩) (.inl (.inl rfl)) _).alloc _
    generalize ((w1.setCell ⟨b, 2, none⟩ (.slice none 0 0)).alloc (.cells #[.int .u8 69, .int .i64 (c : Int), .int .i64 0, .int .i64 (m : Int)] 82)) = wE at *
    obtain ⟨lsE, s0, s1, s2, s3, -⟩ := four bS
    obtain ⟨ltE, t0, t1, t2, t3, r2, r3⟩ := four bR
    have r0 := bR.frozen 0
    have r1 := bR.frozen 1
    have HbW := Lib.hid bW
    have HbR := Lib.hid bR
    have HBE := Lib.hid hBE
    clear bW bS bR hBE x0 x1 x2 x3 y2 y3 cv1 lx1 cv l0 l1 c0 c1 c2 c3 f2 f3
    go_wp2
    have q0 := HbR.out.set_ 0 (.int .u8 69)
    have q1 := q0.set_ 1 (.int .i64 (c : Int))
    have q2 := q1.set_ 2 (.int .i64 0)
    have q3 := q2.set_ 3 (.int .i64 (m : Int))
    have o2 : Blk ((((wE.setCell ⟨w.heap.size, 0, none⟩ (.int .u8 69)).setCell ⟨w.heap.size, 1, none⟩ (.int .i64 (c : Int))).setCell ⟨w.heap.size, 2, none⟩ (.int .i64 0)).setCell ⟨w.heap.size, 3, none⟩ (.int .i64 (m : Int))) w.heap.size 82 #[.int .u8 69, .int .i64 (c : Int), .int .i64 0, .int .i64 (m : Int)] := by simpa using q3
    have o1 := (((HbW.out.far (p := ⟨w.heap.size, 0, none⟩) (by simp only; omega) (.int .u8 69)).far (p := ⟨w.heap.size, 1, none⟩) (by simp only; omega) (.int .i64 (c : Int))).far (p := ⟨w.heap.size, 2, none⟩) (by simp only; omega) (.int .i64 0)).far (p := ⟨w.heap.size, 3, none⟩) (by simp only; omega) (.int .i64 (m : Int))
    have o3 := (((HBE.out.setCell (p := ⟨w.heap.size, 0, none⟩) (.inr (Nat.le_refl _)) (.int .u8 69)).setCell (p := ⟨w.heap.size, 1, none⟩) (.inr (Nat.le_refl _)) (.int .i64 (c : Int))).setCell (p := ⟨w.heap.size, 2, none⟩) (.inr (Nat.le_refl _)) (.int .i64 0)).setCell (p := ⟨w.heap.size, 3, none⟩) (.inr (Nat.le_refl _)) (.int .i64 (m : Int))
    obtain ⟨-, p0, p1, p2, p3, -⟩ := four o2
    exact bodyPost_ret (v := .tuple #[.agg #[.int .u8 69, .int .i64 (c : Int), .int .i64 0, .int .i64 (m : Int)], .bool true]) (by simp [results, Tryz.results66, go_sem, p0, p1, p2, p3]) rfl ⟨rfl, _, o1, o3⟩
end Go.Proofs.YtpnkhgjjlionnaaGreat
namespace Go.Proofs.YtpnkhgjjlionnaaGreat
open Go.RowKit Go.Maps

section
variable {w w' : World} {base g b n : Nat} {S : Nat → Prop} {s s' : WSt} {T : List Tr}
theorem idxFrom_le (x : Int) : ∀ (zs : List Int) (i : Nat), Lib.idxFrom zs x i < (i + zs.length : Nat)
  | [], i => by simp [Lib.idxFrom]; omega
  | z :: zs, i => by
    unfold Lib.idxFrom
    split
    · simp; omega
    · have := idxFrom_le x zs (i + 1)
      simp only [List.length_cons] at this ⊢
      omega
theorem idxOf_le (x : Int) (zs : List Int) : Lib.idxOf zs x < zs.length := by
  have := idxFrom_le x zs 0
  unfold Lib.idxOf
  simpa using this
set_option maxHeartbeats 1000000 in
theorem step_any (hT : Tab w g n T) (h : WayS w base g b n S s) {x : WStep} (hs : stepM T s = some (x, s')) (h1 : ∀ z ∈ s.loop, 0 ≤ z ∧ z < n) (hn : n ≤ 4096) (h2 : s.loop.length ≤ 30000) (h3 : s.wait.length ≤ 30000) (h4 : 3 ≤ s.loop.length) (h5 : ∀ l ∈ s.wait, l ≠ []) :
    Calls Tryz.prog 66 #[.pointer (some ⟨b, 0, none⟩)] w fun e w' => e = .returned (.tuple #[.agg #[.int .u8 x.letter, .int .i64 x.corner, .int .i64 x.loops, .int .i64 x.length], .bool true]) ∧ StpPost w base g b n S s' w' := by
  obtain ⟨-, ⟨vC, vL, vW, vs, hA, hO⟩ | ⟨h0, -⟩⟩ := h
  rotate_left
  · rw [h0] at h4
    simp at h4
  obtain ⟨y, z, r, hl⟩ : ∃ y z r, s.loop = y :: z :: r := by
    match e : s.loop with
    | [] => rw [e] at h4; simp at h4
    | [_] => rw [e] at h4; simp at h4
    | y :: z :: r => exact ⟨y, z, r, rfl⟩
  have hy := h1 y (by rw [hl]; simp)
  have hz := h1 z (by rw [hl]; simp)
  rw [hl] at h2 h4
  simp only [List.length_cons] at h2 h4
  unfold stepM at hs
  rw [hl] at hs
  simp only at hs
  split at hs
  · cases hs
  rename_i hfac
  split at hs
  · rename_i hv
    cases hs
    refine (stepC_any hT hA hl (by omega) (by omega) (by omega) hv (by omega) (by omega)).mono ?_
    rintro e w' ⟨rfl, vL', k1, k2⟩
    exact ⟨rfl, stp_of hO k1 k2⟩
  rename_i hv
  have hv : vertI T (facI T (y, z)) ∈ s.come := by simpa using hv
  split at hs
  · rename_i hr
    cases hs
    cases hw : s.wait with
    | nil =>
      refine (stepF_any hT hA hl (by omega) (by omega) (by omega) hv (by omega) (by omega) hr hw).mono ?_
      rintro e w' ⟨rfl, vW', k1, k2⟩
      refine ⟨by rw [hw], fun k => k = b, ⟨fun k hk => by subst hk; exact ⟨hA.hb, k1.lt⟩, .inr ⟨by simp, rfl, _, _, k1⟩⟩, fun k hk => by subst hk; exact .inl (hO _ (.inl rfl)), k2.mono hO⟩
    | cons l0 lr =>
      obtain ⟨ws, l', hws⟩ : ∃ ws l', s.wait = ws ++ [l'] := by
        rcases List.eq_nil_or_concat s.wait with e | ⟨a, c, e⟩
        · rw [e] at hw; cases hw
        · exact ⟨a, c, by rw [e]; simp⟩
      refine (stepE_any hT hA hl (by omega) (by omega) (by omega) hv (by omega) (by omega) hr hws (h5 l' (by rw [hws]; simp))).mono ?_
      rintro e w' ⟨rfl, vL', vW', vs', k1, k2⟩
      rw [← hw, hws]
      refine ⟨rfl, ?_⟩
      have := stp_of hO k1 k2
      simpa using this
  rename_i hr
  split at hs
  · rename_i hi
    cases hs
    refine (stepL_any hT hA hl (by omega) (by omega) (by omega) hv (by omega) (by omega) (by omega) (by rw [hl]; exact hi)).mono ?_
    rintro e w' ⟨rfl, vL', k1, k2⟩
    exact ⟨rfl, stp_of hO k1 k2⟩
  rename_i hi1
  split at hs
  · rename_i hi
    cases hs
    refine (stepR_any hT hA hl (by omega) (by omega) (by omega) hv (by omega) (by omega) (by omega) (by rw [hl]; exact hi)).mono ?_
    rintro e w' ⟨rfl, vL', k1, k2⟩
    exact ⟨rfl, stp_of hO k1 k2⟩
  rename_i hi2
  split at hs
  · rename_i hi
    cases hs
    have hle := idxOf_le (vertI T (facI T (y, z))) (y :: z :: r)
    simp only [List.length_cons] at hle
    obtain ⟨i, hi'⟩ : ∃ i : Nat, Lib.idxOf (y :: z :: r) (vertI T (facI T (y, z))) = i := ⟨_, (Int.toNat_of_nonneg (by omega)).symm⟩
    rw [hi'] at hi hi1 hi2 hle ⊢
    refine (stepS_any hT hA hl (by omega) (by omega) (by omega) hv (by omega) (by omega) i (by omega) (by omega) (by rw [hl]; exact hi')).mono ?_
    rintro e w' ⟨rfl, vL', vW', vs', k1, k2⟩
    exact ⟨rfl, stp_of hO k1 k2⟩
  · cases hs
end
end Go.Proofs.YtpnkhgjjlionnaaGreat
namespace Go.Proofs.YtpnkhgjjlionnaaGreat
open Go.RowKit Go.Maps

set_option maxRecDepth 100000 in
set_option maxHeartbeats 2000000 in
theorem begin_any {w : World} {g n c : Nat} {T : List Tr} (hT : Tab w g n T) (hS : Surf n T) (hc : c < 3 * T.length) :
    Calls Tryz.prog 65 #[.pointer (some ⟨g, 0, none⟩), .int .i64 c] w fun e w' => ∃ b vC vL vW vs, e = .returned (.pointer (some ⟨b, 0, none⟩)) ∧ WayAt w' w.heap.size g b vC vL vW vs n (beginS T c) ∧ Below w.heap.size w w' := by
  have hn : (n : Int) ≤ 4096 := hS.n1
  obtain ⟨n1, n2, n3⟩ := vert_ne hS.simple hc
  have hb := Jor.nx_lt hc
  have hd := Jor.pv_lt hc
  obtain ⟨va, hva⟩ : ∃ v : Nat, vertN T c = v := ⟨(vertN T c).toNat, by have := vertN_in hT.inr hc; omega⟩
  obtain ⟨vb, hvb⟩ : ∃ v : Nat, vertN T (Jor.nx c) = v := ⟨(vertN T (Jor.nx c)).toNat, by have := vertN_in hT.inr hb; omega⟩
  obtain ⟨vd, hvd⟩ : ∃ v : Nat, vertN T (Jor.pv c) = v := ⟨(vertN T (Jor.pv c)).toNat, by have := vertN_in hT.inr hd; omega⟩
  have la : va < n := by have := vertN_in hT.inr hc; omega
  have lb : vb < n := by have := vertN_in hT.inr hb; omega
  have ld : vd < n := by have := vertN_in hT.inr hd; omega
  have HV0 := Lib.hid (vertices_any g n T w hT.toTabS)
  have HVa := Lib.hid (fun (W : World) (hW : Below w.heap.size w W) => (show Calls Tryz.prog 22 #[.pointer (some ⟨g, 0, none⟩), .int .i64 (c : Int)] W fun e w' => e = .returned (.int .i64 (va : Int)) ∧ W = w' from by
    have := vertex_any g n (c : Int) T W (hT.below hW).toTabS
    rw [vertI_nat hc, hva] at this
    exact this))
  have HVb := Lib.hid (fun (W : World) (hW : Below w.heap.size w W) => (show Calls Tryz.prog 22 #[.pointer (some ⟨g, 0, none⟩), .int .i64 ((Jor.nx c : Nat) : Int)] W fun e w' => e = .returned (.int .i64 (vb : Int)) ∧ W = w' from by
    have := vertex_any g n ((Jor.nx c : Nat) : Int) T W (hT.below hW).toTabS
    rw [vertI_nat hb, hvb] at this
    exact this))
  have HVd := Lib.hid (fun (W : World) (hW : Below w.heap.size w W) => (show Calls Tryz.prog 22 #[.pointer (some ⟨g, 0, none⟩), .int .i64 ((Jor.pv c : Nat) : Int)] W fun e w' => e = .returned (.int .i64 (vd : Int)) ∧ W = w' from by
    have := vertex_any g n ((Jor.pv c : Nat) : Int) T W (hT.below hW).toTabS
    rw [vertI_nat hd, hvd] at this
    exact this))
  have HN := Lib.hid (fun (W : World) (hW : Below w.heap.size w W) => (show Calls Tryz.prog 23 #[.pointer (some ⟨g, 0, none⟩), .int .i64 (c : Int)] W fun e w' => e = .returned (.int .i64 ((Jor.nx c : Nat) : Int)) ∧ W = w' from by
    have := next_any g n (c : Int) T W (hT.below hW).toTabS
    unfold nextI at this
    rw [hasC_true (by omega) (by omega), if_pos rfl, Int.toNat_natCast] at this
    exact this))
  have HP := Lib.hid (fun (W : World) (hW : Below w.heap.size w W) => (show Calls Tryz.prog 24 #[.pointer (some ⟨g, 0, none⟩), .int .i64 (c : Int)] W fun e w' => e = .returned (.int .i64 ((Jor.pv c : Nat) : Int)) ∧ W = w' from by
    have := prev_any g n (c : Int) T W (hT.below hW).toTabS
    unfold prevI at this
    rw [hasC_true (by omega) (by omega), if_pos rfl, Int.toNat_natCast] at this
    exact this))
  have hbegin : beginS T c = ⟨[(va : Int), vb, vd], [(vb : Int), va, vd], []⟩ := by unfold beginS; rw [hva, hvb, hvd]
  rw [hbegin]
  have m1 : vb ≠ va := fun e => n1 (by rw [hvb, hva, e])
  have m2 : vd ≠ va := fun e => n2 (by rw [hvd, hva, e])
  have m3 : vb ≠ vd := fun e => n3 (by rw [hvb, hvd, e])
  have m4 := m1.symm
  have m5 := m2.symm
  have m6 := m3.symm
  clear hbegin hva hvb hvd n1 n2 n3 hS
  obtain ⟨nb, hnb⟩ : ∃ k, Jor.nx c = k := ⟨_, rfl⟩
  obtain ⟨nd, hnd⟩ : ∃ k, Jor.pv c = k := ⟨_, rfl⟩
  rw [hnb] at HVb HN
  rw [hnd] at HVd HP
  clear hb hd hnb hnd hT hc
  obtain ⟨i2, hj', hz0, hz1, hz2⟩ := info_parts infoBool
  go_enter Tryz.func65, Tryz.ntmps65
  go_wp2_with fail
  refine HV0.out.mono ?_
  rintro e w0 ⟨rfl, rfl⟩
  go_upto_region 2 with (at_make; refine wpList_make_full _ rfl (.tmp 11) (.tmp 11) 66 rfl w.heap.size 4 i2 _ 1 Tryz.underlying66 hj' hz0 hz1 .i64 .i64 _ _ n rfl rfl rfl rfl (by rw [hz2]; omega) (by unfold maxLen; omega) (Nat.le_refl _) ?_; intro w1 hr1 hg1)
  rename World => w1
  have hsz1 := hg1.size
  have hB1 : Below w.heap.size w w1 := (Below.refl _ _).grown hg1 (Nat.le_refl _) (fun j e => by cases e)
  have HB1 := Lib.hid hB1
  have HR1 := Lib.hid hr1
  clear hr1 hg1 hB1
  rw [made_bools] at HR1
  have bw := Blk.new w1 154 #[.pointer (some ⟨g, 0, none⟩), .slice (some ⟨w.heap.size, 0, none⟩) n n, .slice none 0 0, .slice none 0 0]
  have HR2 := Lib.hid (HR1.out.alloc (.cells #[.pointer (some ⟨g, 0, none⟩), .slice (some ⟨w.heap.size, 0, none⟩) n n, .slice none 0 0, .slice none 0 0] 154))
  have HB2 := Lib.hid (HB1.out.alloc hsz1 (.cells #[.pointer (some ⟨g, 0, none⟩), .slice (some ⟨w.heap.size, 0, none⟩) n n, .slice none 0 0, .slice none 0 0] 154))
  have hw1 : w.heap.size < w1.heap.size := (HR1.out.lt w.heap.size rfl).2
  have hw2 : w1.heap.size < (w1.alloc (.cells #[.pointer (some ⟨g, 0, none⟩), .slice (some ⟨w.heap.size, 0, none⟩) n n, .slice none 0 0, .slice none 0 0] 154)).heap.size := by simp
  have k1 := HR2.out.cellAt va (by omega)
  have k2 := HR2.out.cellAt vb (by omega)
  have k3 := HR2.out.cellAt vd (by omega)
  have f1 := HR2.out.frozenAt va
  have f2 := HR2.out.frozenAt vb
  have f3 := HR2.out.frozenAt vd
  simp only [bools, List.map_replicate, List.getElem?_replicate, la, lb, ld, if_true] at k1 k2 k3
  generalize (w1.alloc (.cells #[.pointer (some ⟨g, 0, none⟩), .slice (some ⟨w.heap.size, 0, none⟩) n n, .slice none 0 0, .slice none 0 0] 154)) = W2 at *
  obtain ⟨lbw, c0, c1, c2, c3, g2, g3⟩ := four bw
  have HBw := Lib.hid bw
  clear bw HR1 HB1
  have la' : (va : Int) < (n : Int) := by omega
  have lb' : (vb : Int) < (n : Int) := by omega
  have ld' : (vd : Int) < (n : Int) := by omega
  have hne : w.heap.size ≠ w1.heap.size := by omega
  have hne' : w1.heap.size ≠ w.heap.size := by omega
  have lw2 : w.heap.size < W2.heap.size := by omega
  go_upto_region 3 with (first
    | (go_at_call 22; with_reducible refine (HVa.out _ HB2.out).mono ?_; rintro e w2 ⟨rfl, rfl⟩)
    | (go_at_call 22; with_reducible refine (HVb.out _ HB2.out).mono ?_; rintro e w2 ⟨rfl, rfl⟩)
    | (go_at_call 22; with_reducible refine (HVd.out _ HB2.out).mono ?_; rintro e w2 ⟨rfl, rfl⟩)
    | (go_at_call 23; with_reducible refine (HN.out _ HB2.out).mono ?_; rintro e w2 ⟨rfl, rfl⟩)
    | (go_at_call 24; with_reducible refine (HP.out _ HB2.out).mono ?_; rintro e w2 ⟨rfl, rfl⟩))
  go_region
  obtain ⟨r1, r2⟩ := HR2.out.stored va (.bool true)
  obtain ⟨r3, r4⟩ := r1.stored vb (.bool true)
  obtain ⟨r5, r6⟩ := r3.stored vd (.bool true)
  have bw3 : Blk ((((W2.setCell ⟨w.heap.size, va, none⟩ (.bool true)).setCell ⟨w.heap.size, vb, none⟩ (.bool true)).setCell ⟨w.heap.size, vd, none⟩ (.bool true)).drew) w1.heap.size 154 #[.pointer (some ⟨g, 0, none⟩), .slice (some ⟨w.heap.size, 0, none⟩) n n, .slice none 0 0, .slice none 0 0] := (((HBw.out.far (p := ⟨w.heap.size, va, none⟩) (by simp only; omega) _).far (p := ⟨w.heap.size, vb, none⟩) (by simp only; omega) _).far (p := ⟨w.heap.size, vd, none⟩) (by simp only; omega) _).drew
  have r7 : World.ownsRow ((((W2.setCell ⟨w.heap.size, va, none⟩ (.bool true)).setCell ⟨w.heap.size, vb, none⟩ (.bool true)).setCell ⟨w.heap.size, vd, none⟩ (.bool true)).drew) w.heap.size 4 1 (.slice (some ⟨w.heap.size, 0, none⟩) n n) n ((((bools (List.replicate n false)).set va (.bool true)).set vb (.bool true)).set vd (.bool true)) := r5
  have HB3 : Below w.heap.size w ((((W2.setCell ⟨w.heap.size, va, none⟩ (.bool true)).setCell ⟨w.heap.size, vb, none⟩ (.bool true)).setCell ⟨w.heap.size, vd, none⟩ (.bool true)).drew) := (((HB2.out.setCell (p := ⟨w.heap.size, va, none⟩) (Nat.le_refl _) _).setCell (p := ⟨w.heap.size, vb, none⟩) (Nat.le_refl _) _).setCell (p := ⟨w.heap.size, vd, none⟩) (Nat.le_refl _) _).drew
  generalize ((((W2.setCell ⟨w.heap.size, va, none⟩ (.bool true)).setCell ⟨w.heap.size, vb, none⟩ (.bool true)).setCell ⟨w.heap.size, vd, none⟩ (.bool true)).drew) = W3 at *
  clear k1 k2 k3 f1 f2 f3 c0 c1 c2 c3 g2 g3 lbw
  obtain ⟨lbw, c0, c1, c2, c3, g2, g3⟩ := four bw3
  have bits : BitsOf (((((List.replicate n false).set va true).set vb true).set vd true)) n [(va : Int), vb, vd] := ((BitsOf.none_ n).mark la |>.mark lb |>.mark ld)
  rw [bools_set, bools_set, bools_set] at r7
  have HR3 := Lib.hid r7
  have HB3' := Lib.hid HB3
  have HBw3 := Lib.hid bw3
  have hsz3 := HB3.size
  clear r1 r2 r3 r4 r5 r6 r7 HB3 bw3
  go_wp2
  have hz : (W3.setCell ⟨w1.heap.size, 2, none⟩ (.slice (some ⟨W3.heap.size, 0, none⟩) 3 3)).heap.size = W3.heap.size := by simp [World.setCell]
  have bL : Blk ((W3.setCell ⟨w1.heap.size, 2, none⟩ (.slice (some ⟨W3.heap.size, 0, none⟩) 3 3)).alloc (.cells #[.int .i64 vb, .int .i64 va, .int .i64 vd] 3)) W3.heap.size 3 #[.int .i64 vb, .int .i64 va, .int .i64 vd] := blk_new_at hz
  have hL : ((W3.setCell ⟨w1.heap.size, 2, none⟩ (.slice (some ⟨W3.heap.size, 0, none⟩) 3 3)).alloc (.cells #[.int .i64 vb, .int .i64 va, .int .i64 vd] 3)).ownsRow w.heap.size 3 1 (.slice (some ⟨W3.heap.size, 0, none⟩) 3 3) 3 [.int .i64 vb, .int .i64 va, .int .i64 vd] :=
    ⟨rfl, .inr ⟨_, 3, _, rfl, hsz3, bL, Nat.le_refl _, by decide, rfl, rfl⟩⟩
  have bA := (HBw3.out.set_ 2 (.slice (some ⟨W3.heap.size, 0, none⟩) 3 3)).alloc (.cells #[.int .i64 vb, .int .i64 va, .int .i64 vd] 3)
  have hC := (own_alloc_st (i := 2) (u := .slice (some ⟨W3.heap.size, 0, none⟩) 3 3) HR3.out HBw3.out (by decide)).alloc (.cells #[.int .i64 vb, .int .i64 va, .int .i64 vd] 3)
  go_ret
  refine ⟨w1.heap.size, .slice (some ⟨w.heap.size, 0, none⟩) n n, .slice (some ⟨W3.heap.size, 0, none⟩) 3 3, .slice none 0 0, [], rfl, ⟨?_, by omega, ⟨_, hC, bits⟩, hL, World.ownsRow_nil _ _ _ _, fun i u r hu _ => by simp at hu, ⟨fun v hv => ?_, by simp⟩, by simp⟩, ?_⟩
  · simpa using bA
  · rw [List.mem_singleton.1 hv]
    exact ⟨_, rfl⟩
  · exact (HB3'.out.setCell (p := ⟨w1.heap.size, 2, none⟩) (by simp only; omega) _).alloc (by rw [hz]; exact hsz3) _
end Go.Proofs.YtpnkhgjjlionnaaGreat
namespace Go.Proofs.YtpnkhgjjlionnaaGreat
open Go.RowKit Go.Maps

theorem cornI_rng {N : Int} {T : List Tr} (hS : Surf N T) {v : Int} (hv : 0 ≤ v ∧ v < N) : ∃ c : Nat, cornI N T v = (c : Int) ∧ c < 3 * T.length := by
  unfold cornI
  rw [if_pos hv]
  refine ⟨_, rfl, ?_⟩
  cases h : fstFrom T 0 v with
  | some c =>
    unfold fstFrom at h
    have := List.mem_of_find?_eq_some h
    have := List.mem_range'_1.1 this
    simp only [Option.getD_some]
    omega
  | none =>
    have := hS.lonely v hv
    have hp : T ≠ [] := by
      rintro rfl
      simp [flatT] at this
    have := List.length_pos_iff.2 hp
    simp only [Option.getD_none]
    omega
set_option maxHeartbeats 1000000 in
/-- genus.Of$1: the shell of a vertex. -/
theorem gat_any (g Bs Bt : Nat) (N v : Int) (T : List Tr) (out : List Int) (av : Option Addr) (cv base : Nat) (W : World) (hS : Surf N T) (hT : Tab W g N T) (hs : W.cell? ⟨Bs, 0, none⟩ = some (.slice av T.length cv)) (ht : W.cell? ⟨Bt, 0, none⟩ = some (.pointer (some ⟨g, 0, none⟩))) (_ls : Bs < W.heap.size) (_lt : Bt < W.heap.size)
    (hr : W.ownsRow base 3 1 (.slice av T.length cv) T.length (intsV out)) (hl : out.length = T.length) (hv : 0 ≤ v ∧ v < N) :
    Calls Tryz.prog 41 #[.int .i64 v, .pointer (some ⟨Bs, 0, none⟩), .pointer (some ⟨Bt, 0, none⟩)] W fun e w' => ∃ i : Nat, e = .returned (.int .i64 (at_ out i)) ∧ i < T.length ∧ Below W.heap.size W w' := by
  obtain ⟨c, hc, hlt⟩ := cornI_rng hS hv
  have H0 := Lib.hid (fun (W' : World) (hW : Below W.heap.size W W') => (show Calls Tryz.prog 42 #[.pointer (some ⟨g, 0, none⟩), .int .i64 v] W' fun e w' => e = .returned (.int .i64 (c : Int)) ∧ Below W'.heap.size W' w' from by
    have := corner_any g N v T W' (hT.below hW)
    rw [hc] at this
    exact this.mono fun e w' h => ⟨h.1, by rw [← h.2]; exact Below.refl _ _⟩))
  have hi : c / 3 < T.length := by omega
  have hcell : W.cell? (⟨(match av with | some a => a.block | none => 0), c / 3, none⟩ : Addr) = some (.int .i64 (at_ out (c / 3))) := by
    obtain ⟨g0, cap, e0, hg1, hg2⟩ := hr.form (by omega)
    cases e0
    rw [hr.cellAt (c / 3) (by omega)]
    exact intsV_at (by omega)
  obtain ⟨g0, cap, e0, hg1, hg2⟩ := hr.form (by omega)
  cases e0
  simp only at hcell
  have hl2 := hT.len
  obtain ⟨F, hF⟩ : ∃ F, T.length = F := ⟨_, rfl⟩
  rw [hF] at hs hi hl2 hlt ⊢
  have HI := Lib.hid hi
  have i3 : ((c / 3 : Nat) : Int) < (F : Int) := by omega
  have i4 : (c : Int).tdiv 3 = ((c / 3 : Nat) : Int) := by
    rw [Int.tdiv_eq_ediv_of_nonneg (by omega)]; rfl
  have i5 : (0 : Int) ≤ ((c / 3 : Nat) : Int) := by omega
  have q0 := cell_regrown hs
  have q1 := cell_regrown ht
  have q2 := cell_regrown hcell
  clear hr hT hS hF
  go_enter Tryz.func41, Tryz.ntmps41
  go_upto_region 1 with fail
  refine wp_region_quiet_below (by kernel_rfl) (by kernel_rfl) ?_
  repeat (go_big_quiet_step ((go_at_call 42; exact Calls.regrown_of (H0.out _ (below_regrown W _ _)))))
  refine wpQuiet_nil ?_
  intro _ hw'
  obtain ⟨⟨dq, osq⟩, hw''⟩ := hw'
  subst hw''
  have hB1 := below_regrown W dq osq
  generalize Sort.grow (redrawn W dq) osq = w1 at *
  go_wp2
  go_ret
  exact ⟨_, rfl, HI.out, hB1⟩
set_option maxHeartbeats 1000000 in
/-- Numbers.done. -/
theorem gdone_any (g o : Nat) (V F B tw z1 z4 z5 : Int) (W : World) (c0 : W.cell? ⟨g, o, none⟩ = some (.int .i64 V)) (c1 : W.cell? ⟨g, o + 1, none⟩ = some (.int .i64 z1)) (c2 : W.cell? ⟨g, o + 2, none⟩ = some (.int .i64 F)) (c3 : W.cell? ⟨g, o + 3, none⟩ = some (.int .i64 B)) (c4 : W.cell? ⟨g, o + 4, none⟩ = some (.int .i64 z4)) (c5 : W.cell? ⟨g, o + 5, none⟩ = some (.int .i64 z5))
    (fz : ∀ k, W.frozen? ⟨g, k, none⟩ = false) (_hg : g < W.heap.size) (hV : 0 ≤ V ∧ V ≤ 100000) (hF : 0 ≤ F ∧ F ≤ 100000) (hB : 0 ≤ B ∧ B ≤ 100000) (ht : 0 ≤ tw ∧ tw ≤ 100000) :
    Calls Tryz.prog 46 #[.pointer (some ⟨g, o, none⟩), .int .i64 tw] W fun e w' => (∃ v, e = .returned v) ∧ w' = (((W.setCell ⟨g, o + 1, none⟩ (.int .i64 (tw / 2))).setCell ⟨g, o + 4, none⟩ (.int .i64 (V - tw / 2 + F))).setCell ⟨g, o + 5, none⟩ (.int .i64 ((2 - B - (V - tw / 2 + F)).tdiv 2))).drew.drew := by
  have i4 : tw.tdiv 2 = tw / 2 := Int.tdiv_eq_ediv_of_nonneg (by omega)
  have f1 := fz (o + 1)
  have f4 := fz (o + 4)
  have f5 := fz (o + 5)
  go_enter Tryz.func46, Tryz.ntmps46
  go_wp2
  go_region
  go_wp2
  go_region
  go_end0
  exact ⟨⟨_, rfl⟩, rfl⟩
theorem made6 (m : Nat) : (madeCells (Value.agg #[.int .i64 0, .int .i64 0, .int .i64 0, .int .i64 0, .int .i64 0, .int .i64 0]).cells (m * 6)).toList = intsV (List.replicate (m * 6) 0) := by
  apply List.ext_getElem
  · simp [madeCells, intsV]
  · intro i h1 h2
    have h3 : i % 6 < 6 := Nat.mod_lt _ (by omega)
    simp only [madeCells, Value.cells, intsV, List.getElem_map, List.getElem_replicate, Array.toList_map, Array.toList_range, List.getElem_range, List.size_toArray, List.length_cons, List.length_nil, Nat.reduceAdd]
    have : ∀ j, j < 6 → (#[Value.int .i64 0, .int .i64 0, .int .i64 0, .int .i64 0, .int .i64 0, .int .i64 0] : Array Value)[j]! = .int .i64 0 := by
      intro j hj
      have : j = 0 ∨ j = 1 ∨ j = 2 ∨ j = 3 ∨ j = 4 ∨ j = 5 := by omega
      rcases this with rfl | rfl | rfl | rfl | rfl | rfl <;> rfl
    exact this _ h3
theorem infoNums : (Tryz.prog.info? 54).map (fun i => (i.zero, i.size, i.bytes)) = some (some (.agg #[.int .i64 0, .int .i64 0, .int .i64 0, .int .i64 0, .int .i64 0, .int .i64 0]), 6, 48) := by kernel_rfl
end Go.Proofs.YtpnkhgjjlionnaaGreat
namespace Go.Proofs.YtpnkhgjjlionnaaGreat
open Go.RowKit Go.Maps

/-- The border's loops, as border.Loops hands them back. -/
def LoopsPost (n : Nat) (T : List Tr) (w : World) (e : Ending) (w' : World) : Prop :=
  ∃ v us, ∃ L : List (List Int), e = .returned v ∧ w'.ownsRow w.heap.size 30 1 v L.length us ∧ L.length ≤ n ∧
    (∀ (i : Nat) (u : Value) (r : List Int), us[i]? = some u → L[i]? = some r → w'.ownsRow w.heap.size 3 1 u r.length (intsV r) ∧ ∃ a r', r = a :: r' ∧ 0 ≤ a ∧ a < n) ∧ (L = [] ↔ ClosedT T) ∧ Below w.heap.size w w'
theorem own_base {w : World} {base base' n s : Nat} {e : TypeId} {v : Value} {xs : List Value} (h : w.ownsRow base e s v n xs) (hb : base' ≤ base) : w.ownsRow base' e s v n xs := by
  obtain ⟨h1, h2 | ⟨g, cap, cur, rfl, a1, a2⟩⟩ := h
  · exact ⟨h1, .inl h2⟩
  · exact ⟨h1, .inr ⟨g, cap, cur, rfl, Nat.le_trans hb a1, a2⟩⟩
theorem cnt_ge {out : List Int} : ∀ (k : Nat), k ≤ out.length → ∀ j, j < k → at_ out j + 1 ≤ cntL (out.take k)
  | 0, _, j, hj => by omega
  | k + 1, hk, j, hj => by
    rw [cntL_take (j := k) (out := out) (by omega)]
    rcases Nat.lt_or_ge j k with h | h
    · have := cnt_ge (out := out) k (by omega) j h
      omega
    · obtain rfl : j = k := by omega
      omega
theorem at_lt {out : List Int} {j : Nat} (hj : j < out.length) : at_ out j < cntL out := by
  have := cnt_ge (out := out) out.length (Nat.le_refl _) j hj
  rw [List.take_length] at this
  omega
/-- The numbers while they are counted: rows of the shells' numbers and of the ends of edges. -/
structure GI (W2 : World) (T : List Tr) (m : Nat) (vO vT : Value) (cs tw : List Int) (W : World) : Prop where
  below : Below W2.heap.size W2 W
  out : W.ownsRow W2.heap.size 54 6 vO m (intsV cs)
  two : W.ownsRow W2.heap.size 3 1 vT m (intsV tw)
  cl : cs.length = m * 6
  tl : tw.length = m
  cb : ∀ x ∈ cs, 0 ≤ x ∧ x ≤ 30000
  tb : ∀ x ∈ tw, 0 ≤ x ∧ x ≤ 60000
theorem at_mem {l : List Int} {j : Nat} (h : j < l.length) : at_ l j ∈ l := by
  unfold at_
  rw [List.getD_eq_getElem?_getD, List.getElem?_eq_getElem h]
  exact List.getElem_mem _
section
variable {W2 W W' : World} {T : List Tr} {m i : Nat} {vO vT : Value} {cs tw : List Int}
theorem GI.le (h : GI W2 T m vO vT cs tw W) (hb : Below W.heap.size W W') : GI W2 T m vO vT cs tw W' :=
  ⟨h.below.trans (hb.mono h.below.size), own_below h.out hb, own_below h.two hb, h.cl, h.tl, h.cb, h.tb⟩
theorem GI.putO {gO cO : Nat} (h : GI W2 T m (.slice (some ⟨gO, 0, none⟩) m cO) vT cs tw W) (j : Nat) (x : Int) (hx : 0 ≤ x ∧ x ≤ 30000) : GI W2 T m (.slice (some ⟨gO, 0, none⟩) m cO) vT (cs.set j x) tw (W.setCell ⟨gO, j, none⟩ (.int .i64 x)) := by
  obtain ⟨k1, k2⟩ := h.out.stored j (.int .i64 x)
  rw [intsV_set] at k1
  refine ⟨h.below.grown k2 h.below.size (fun k e => (h.out.lt k e).1), k1, h.two.kept k2 (own_own_ne h.two h.out (by decide)), by rw [List.length_set]; exact h.cl, h.tl, fun y hy => ?_, h.tb⟩
  rcases List.mem_or_eq_of_mem_set hy with hy | rfl
  · exact h.cb y hy
  · exact hx
theorem GI.putT {gT cT : Nat} (h : GI W2 T m vO (.slice (some ⟨gT, 0, none⟩) m cT) cs tw W) (j : Nat) (x : Int) (hx : 0 ≤ x ∧ x ≤ 60000) : GI W2 T m vO (.slice (some ⟨gT, 0, none⟩) m cT) cs (tw.set j x) (W.setCell ⟨gT, j, none⟩ (.int .i64 x)) := by
  obtain ⟨k1, k2⟩ := h.two.stored j (.int .i64 x)
  rw [intsV_set] at k1
  refine ⟨h.below.grown k2 h.below.size (fun k e => (h.two.lt k e).1), h.out.kept k2 (own_own_ne h.out h.two (by decide)), k1, h.cl, by rw [List.length_set]; exact h.tl, h.cb, fun y hy => ?_⟩
  rcases List.mem_or_eq_of_mem_set hy with hy | rfl
  · exact h.tb y hy
  · exact hx
theorem GI.cellO {gO cO : Nat} (h : GI W2 T m (.slice (some ⟨gO, 0, none⟩) m cO) vT cs tw W) (f : Nat) (hi : i < m) (hf : f < 6) : W.cell? ⟨gO, i * 6 + f, none⟩ = some (.int .i64 (at_ cs (i * 6 + f))) ∧ W.frozen? ⟨gO, i * 6 + f, none⟩ = false ∧ 0 ≤ at_ cs (i * 6 + f) ∧ at_ cs (i * 6 + f) ≤ 30000 ∧ gO < W.heap.size := by
  have hj : i * 6 + f < cs.length := by rw [h.cl]; omega
  refine ⟨by rw [h.out.cellAt _ (by omega)]; exact intsV_at hj, h.out.frozenAt _, ?_⟩
  have hm : at_ cs (i * 6 + f) ∈ cs := by
    unfold at_
    rw [List.getD_eq_getElem?_getD, List.getElem?_eq_getElem hj]
    exact List.getElem_mem _
  exact ⟨(h.cb _ hm).1, (h.cb _ hm).2, (h.out.lt gO rfl).2⟩
theorem GI.cellT {gT cT : Nat} (h : GI W2 T m vO (.slice (some ⟨gT, 0, none⟩) m cT) cs tw W) (hi : i < m) : W.cell? ⟨gT, i, none⟩ = some (.int .i64 (at_ tw i)) ∧ W.frozen? ⟨gT, i, none⟩ = false ∧ 0 ≤ at_ tw i ∧ at_ tw i ≤ 60000 ∧ gT < W.heap.size := by
  have hj : i < tw.length := by rw [h.tl]; omega
  refine ⟨by rw [h.two.cellAt _ (by omega)]; exact intsV_at hj, h.two.frozenAt _, ?_⟩
  have hm : at_ tw i ∈ tw := by
    unfold at_
    rw [List.getD_eq_getElem?_getD, List.getElem?_eq_getElem hj]
    exact List.getElem_mem _
  exact ⟨(h.tb _ hm).1, (h.tb _ hm).2, (h.two.lt gT rfl).2⟩
end

set_option maxRecDepth 100000 in
set_option maxHeartbeats 4000000 in
theorem genus_any (g n : Nat) (T : List Tr) (w : World) (hT : Tab w g n T) (hS : Surf n T) (hL : ∀ W, Below w.heap.size w W → Calls Tryz.prog 45 #[.pointer (some ⟨g, 0, none⟩)] W (LoopsPost n T W)) :
    Calls Tryz.prog 17 #[.pointer (some ⟨g, 0, none⟩)] w fun e w' => ∃ (v : Value) (out : List Int) (m : Nat) (cs : List Int), e = .returned v ∧ Shl T out ∧ cntL out = m ∧ w'.ownsRow w.heap.size 54 6 v m (intsV cs) ∧
      (m = 1 → ∃ E b : Int, cs = [(n : Int), E, T.length, b, n - E + T.length, (2 - b - (n - E + T.length)).tdiv 2] ∧ 0 ≤ b ∧ (b = 0 ↔ ClosedT T) ∧ (ClosedT T → E = 3 * (T.length : Int) / 2)) ∧ Below w.heap.size w w' := by
  have hl := hT.len
  have hn1 := hS.n1
  have b1 := Blk.new w 26 #[.pointer (some ⟨g, 0, none⟩)]
  have hB1 : Below w.heap.size w (w.alloc (.cells #[.pointer (some ⟨g, 0, none⟩)] 26)) := (Below.refl _ _).alloc (Nat.le_refl _) _
  have HOf := Lib.hid (of_any g n T _ (hT.below hB1) hS.twice)
  have HT := Lib.hid hT
  have HS := Lib.hid hS
  have HL := Lib.hid hL
  obtain ⟨F, hF⟩ : ∃ F, T.length = F := ⟨_, rfl⟩
  rw [hF] at hl HOf ⊢
  have HF := Lib.hid hF
  clear hF hT hS hL
  obtain ⟨i0, hi0, hx0, hx1, hx2⟩ := info_parts infoNums
  obtain ⟨i2, hi2, hy0, hy1, hy2⟩ := info_parts infoInt
  go_enter Tryz.func17, Tryz.ntmps17
  go_wp2_with fail
  refine HOf.out.mono ?_
  rintro e w1 ⟨v, out, rfl, hr, hSh, hlt, hB⟩
  obtain ⟨av, cv, rfl⟩ := ownsRow_slice hr
  have hz1 := hB.size
  have hB2 : Below w.heap.size w (w1.alloc (.cells #[.slice av F cv] 30)) := (hB1.trans (hB.mono hB1.size)).alloc (by have := hB1.size; omega) _
  have bt2 := (b1.below hB b1.lt).alloc (.cells #[.slice av F cv] 30)
  have bs2 := Blk.new w1 30 #[.slice av F cv]
  have hr2 := hr.alloc (.cells #[.slice av F cv] 30)
  have HB2 := Lib.hid hB2
  have HBt := Lib.hid bt2
  have HBs := Lib.hid bs2
  have HR2 := Lib.hid hr2
  have HSh := Lib.hid hSh
  have HLT := Lib.hid hlt
  clear hB hB1 hB2 b1 bt2 bs2 hr hr2 hSh hlt HOf
  go_upto_region 2 with fail
  generalize w1.alloc (.cells #[.slice av F cv] 30) = W2 at *
  have HTW := Lib.hid (fun (W : World) (hW : Below W2.heap.size W2 W) => HT.out.below (HB2.out.trans (hW.mono HB2.out.size)))
  have HCn := Lib.hid (count_any g n T W2 (HTW.out W2 (Below.refl _ _)) HS.out.twice)
  have hz2 := HB2.out.size
  obtain ⟨lt0, x0, -⟩ := HBt.out.one
  obtain ⟨ls0, y0, -⟩ := HBs.out.one
  go_wp2_with fail
  refine HCn.out.mono ?_
  rintro e w3 ⟨out', rfl, hSh', -, hB3⟩
  obtain rfl := HSh.out.one hSh'
  clear hSh' HCn
  have hol : out.length = F := by rw [HSh.out.len]; exact HF.out
  have HOL := Lib.hid hol
  have hcm0 : 0 ≤ cntL out ∧ cntL out ≤ F := by
    have := cntL_bd (out := out) (m := (F : Int)) (fun j hj => HLT.out j (by omega)) (by omega) out.length (Nat.le_refl _)
    rwa [List.take_length] at this
  obtain ⟨m, hm⟩ : ∃ m : Nat, cntL out = m := ⟨(cntL out).toNat, by omega⟩
  have HM := Lib.hid hm
  have hlm : ∀ j, j < F → 0 ≤ at_ out j ∧ at_ out j < m := fun j hj => ⟨HSh.out.nn j (by rw [HF.out]; exact hj), by rw [← hm]; exact at_lt (by rw [hol]; exact hj)⟩
  have HLM := Lib.hid hlm
  have hmF : m ≤ F := by omega
  rw [hm]
  clear hol hcm0 hm hlm
  go_upto_region 5 with (first
    | (at_make; refine wpList_make_full _ rfl (.tmp 17) (.tmp 17) 48 rfl W2.heap.size 54 i0 _ 6 Tryz.underlying48 hi0 hx0 hx1 .i64 .i64 _ _ m rfl rfl rfl rfl (by rw [hx2]; omega) (by unfold maxLen; omega) hB3.size ?_; intro w4 hr4 hg4)
    | (at_make; refine wpList_make_full _ rfl (.tmp 20) (.tmp 20) 30 rfl W2.heap.size 3 i2 _ 1 Tryz.underlying30 hi2 hy0 hy1 .i64 .i64 _ _ m rfl rfl rfl rfl (by rw [hy2]; omega) (by unfold maxLen; omega) (Nat.le_trans hB3.size hg4.size) ?_; intro w5 hr5 hg5))
  rw [made6] at hr4
  rw [made_ints] at hr5
  have hG0 : GI W2 T m (.slice (some ⟨w3.heap.size, 0, none⟩) m m) (.slice (some ⟨w4.heap.size, 0, none⟩) m m) (List.replicate (m * 6) 0) (List.replicate m 0) w5 :=
    ⟨(hB3.grown hg4 hB3.size (fun j e => by cases e)).grown hg5 (Nat.le_trans hB3.size hg4.size) (fun j e => by cases e), hr4.kept hg5 (.inr (by simp [Value.ownBlock])), by simpa [intsV] using hr5, by simp, by simp, fun x hx => by rw [List.eq_of_mem_replicate hx]; omega, fun x hx => by rw [List.eq_of_mem_replicate hx]; omega⟩
  have HG0 := Lib.hid hG0
  clear hr4 hg4 hr5 hg5 hB3 hG0 hi0 hx0 hx1 hx2 hi2 hy0 hy1 hy2
  generalize w3.heap.size = gO at *
  generalize w4.heap.size = gT at *
  rename World => wA
  have hBA := HG0.out.below
  have hzA := hBA.size
  have xA := (hBA.cell (p := ⟨w.heap.size, 0, none⟩) lt0).trans x0
  have yA := (hBA.cell (p := ⟨w1.heap.size, 0, none⟩) ls0).trans y0
  clear hBA
  go_wp2
  go_loopw [25] (fun ix wr => ∃ (k : Nat) (cs tw : List Int), k ≤ F ∧ ix = .int .i64 k ∧ GI W2 T m (.slice (some ⟨gO, 0, none⟩) m m) (.slice (some ⟨gT, 0, none⟩) m m) cs tw wr ∧ (∀ x ∈ cs, x ≤ k) ∧ (∀ x ∈ tw, x ≤ 6 * k) ∧ (m = 1 → cs = [0, 0, (k : Int), 0, 0, 0] ∧ (ClosedT T → tw = [3 * (k : Int)]))) (fun ix _ => F - (intOf ix).toNat)
  case atStart => exact ⟨0, _, _, Nat.zero_le _, rfl, HG0.out, fun x hx => by rw [List.eq_of_mem_replicate hx]; omega, fun x hx => by rw [List.eq_of_mem_replicate hx]; omega, fun h => by subst h; exact ⟨rfl, fun _ => rfl⟩⟩
  case round =>
    clear HG0 xA yA hzA
    rename World => wr
    obtain ⟨k, cs, tw, hk, rfl, hG, hc1, ht1, h1⟩ := hrel
    have hBr := hG.below
    have hzr := hBr.size
    have xr := (hBr.cell (p := ⟨w.heap.size, 0, none⟩) lt0).trans x0
    have yr := (hBr.cell (p := ⟨w1.heap.size, 0, none⟩) ls0).trans y0
    by_cases hlt : k < F
    · obtain ⟨g0, cap, e0, hg1, hg2⟩ := HR2.out.form (by omega)
      cases e0
      have hrc := (hBr.cell (p := ⟨g0, k, none⟩) hg2).trans (HR2.out.cellAt k (by omega))
      rw [intsV_at (by rw [HOL.out]; exact hlt)] at hrc
      obtain ⟨i, hi⟩ : ∃ i : Nat, at_ out k = i := ⟨(at_ out k).toNat, by have := HLM.out k hlt; omega⟩
      have him : i < m := by have := HLM.out k hlt; omega
      rw [hi] at hrc
      obtain ⟨o1, o2, o3, o4, o5⟩ := hG.cellO 2 him (by omega)
      have hmO : at_ cs (i * 6 + 2) ∈ cs := by
        have hj : i * 6 + 2 < cs.length := by rw [hG.cl]; omega
        unfold at_
        rw [List.getD_eq_getElem?_getD, List.getElem?_eq_getElem hj]
        exact List.getElem_mem _
      have o6 := hc1 _ hmO
      have hG2 := hG.putO (i * 6 + 2) (at_ cs (i * 6 + 2) + 1) (by omega)
      have hc2 : ∀ x ∈ cs.set (i * 6 + 2) (at_ cs (i * 6 + 2) + 1), x ≤ (k : Int) + 1 := fun x hx => by
        rcases List.mem_or_eq_of_mem_set hx with hx | rfl
        · have := hc1 x hx; omega
        · omega
      have h2 : m = 1 → cs.set (i * 6 + 2) (at_ cs (i * 6 + 2) + 1) = [0, 0, (k : Int) + 1, 0, 0, 0] := fun h => by
        obtain rfl : i = 0 := by omega
        rw [(h1 h).1]
        rfl
      have h3 : m = 1 → ClosedT T → tw = [3 * (k : Int)] := fun h hc => (h1 h).2 hc
      have k3 : (k : Int) < (F : Int) := by omega
      have i3 : (i : Int) < (m : Int) := by omega
      have HG2 := Lib.hid hG2
      have HC2 := Lib.hid hc2
      have HT1 := Lib.hid ht1
      have H2 := Lib.hid h2
      have H3 := Lib.hid h3
      have HI := Lib.hid hi
      generalize cs.set (i * 6 + 2) (at_ cs (i * 6 + 2) + 1) = cs2 at *
      generalize at_ cs (i * 6 + 2) = z at *
      clear hG hG2 hc1 hc2 ht1 h1 h2 h3 hmO hBr hi
      go_wp2
      generalize (wr.setCell ⟨gO, i * 6 + 2, none⟩ (.int .i64 (z + 1))) = wB at *
      go_loopw [9] (fun cq wq => ∃ (j : Nat) (tw2 : List Int), j ≤ 3 ∧ cq = .int .i64 (3 * (k : Int) + (j : Int)) ∧ GI W2 T m (.slice (some ⟨gO, 0, none⟩) m m) (.slice (some ⟨gT, 0, none⟩) m m) cs2 tw2 wq ∧ (∀ x ∈ tw2, x ≤ 6 * (k : Int) + 2 * (j : Int)) ∧ (m = 1 → ClosedT T → tw2 = [3 * (k : Int) + (j : Int)])) (fun cq _ => 3 * k + 3 - (intOf cq).toNat)
      case atStart => exact ⟨0, tw, by omega, by simp, HG2.out, fun x hx => by have := HT1.out x hx; omega, fun h hc => by rw [H3.out h hc]; simp⟩
      case round =>
        rename World => wq
        obtain ⟨j, tw2, hj, rfl, hG, ht2, h4⟩ := hrel
        clear HG2 H3 HT1
        have hBr := hG.below
        have hzr := hBr.size
        have xr := (hBr.cell (p := ⟨w.heap.size, 0, none⟩) lt0).trans x0
        by_cases hj3 : j < 3
        · obtain ⟨o1, o2, o3, o4, o5⟩ := hG.cellT him
          have o6 := ht2 _ (at_mem (l := tw2) (j := i) (by rw [hG.tl]; exact him))
          have hG3 := hG.putT i (at_ tw2 i + 1) (by omega)
          have ht3 : ∀ x ∈ tw2.set i (at_ tw2 i + 1), x ≤ 6 * (k : Int) + 2 * (j : Int) + 1 := fun x hx => by
            rcases List.mem_or_eq_of_mem_set hx with hx | rfl
            · have := ht2 x hx; omega
            · omega
          have h5 : m = 1 → ClosedT T → tw2.set i (at_ tw2 i + 1) = [3 * (k : Int) + (j : Int) + 1] := fun h hc => by
            obtain rfl : i = 0 := by omega
            rw [h4 h hc]
            rfl
          have HG3 := Lib.hid hG3
          have HT3 := Lib.hid ht3
          have H5 := Lib.hid h5
          have j3 : 3 * (k : Int) + (j : Int) < 3 * (k : Int) + 3 := by omega
          generalize tw2.set i (at_ tw2 i + 1) = tw3 at *
          generalize at_ tw2 i = y at *
          clear hG hG3 ht2 ht3 h4 h5 hBr
          go_upto_region 13 with fail
          generalize (wq.setCell ⟨gT, i, none⟩ (.int .i64 (y + 1))) = wC at *
          have hBC := HG3.out.below
          have xC := (hBC.cell (p := ⟨w.heap.size, 0, none⟩) lt0).trans x0
          have HOp := Lib.hid (opp_any g n (3 * (k : Int) + (j : Int)) T wC (HTW.out wC hBC))
          clear hBC
          go_wp2_with fail
          refine HOp.out.mono ?_
          rintro e wD ⟨rfl, hbD⟩
          have hG4 := HG3.out.le hbD
          have hcl : ClosedT T → 0 ≤ oppI T (3 * (k : Int) + (j : Int)) := fun hc => by
            have := hc (3 * k + j) (by rw [HF.out]; omega)
            have e : ((3 * k + j : Nat) : Int) = 3 * (k : Int) + (j : Int) := by omega
            rwa [e] at this
          have HCl := Lib.hid hcl
          clear hcl hbD xC
          by_cases hop : oppI T (3 * (k : Int) + (j : Int)) < 0
          · obtain ⟨p1, p2, p3, p4, p5⟩ := hG4.cellT him
            have p6 := HT3.out _ (at_mem (l := tw3) (j := i) (by rw [hG4.tl]; exact him))
            have hG5 := hG4.putT i (at_ tw3 i + 1) (by omega)
            have ht5 : ∀ x ∈ tw3.set i (at_ tw3 i + 1), x ≤ 6 * (k : Int) + 2 * ((j : Int) + 1) := fun x hx => by
              rcases List.mem_or_eq_of_mem_set hx with hx | rfl
              · have := HT3.out x hx; omega
              · omega
            have HG5 := Lib.hid hG5
            have HT5 := Lib.hid ht5
            generalize tw3.set i (at_ tw3 i + 1) = tw5 at *
            generalize at_ tw3 i = x at *
            clear hG4 hG5 ht5
            go_wp2
            go_roundw
            case measure => simp [intOf]; omega
            case rel => exact ⟨j + 1, tw5, by omega, by go_num, HG5.out, fun x hx => by have := HT5.out x hx; push_cast; omega, fun h hc => by have := HCl.out hc; omega⟩
          · have HG4 := Lib.hid hG4
            clear hG4
            go_wp2
            go_roundw
            case measure => simp [intOf]; omega
            case rel => exact ⟨j + 1, tw3, by omega, by go_num, HG4.out, fun x hx => by have := HT3.out x hx; push_cast; omega, fun h hc => by rw [H5.out h hc]; congr 1⟩
        · obtain rfl : j = 3 := by omega
          have HG := Lib.hid hG
          have HT2 := Lib.hid ht2
          have H4 := Lib.hid h4
          clear hG ht2 h4
          go_wp2
          go_roundw
          case measure => simp [intOf]; omega
          case rel => exact ⟨k + 1, cs2, tw2, by omega, by go_num, HG.out, fun x hx => by have := HC2.out x hx; push_cast; omega, fun x hx => by have := HT2.out x hx; push_cast; omega, fun h => ⟨by rw [H2.out h]; push_cast; rfl, fun hc => by rw [H4.out h hc]; congr 1⟩⟩
    · obtain rfl : F = k := by omega
      have HG := Lib.hid hG
      have HC1 := Lib.hid hc1
      have HT1 := Lib.hid ht1
      have H1 := Lib.hid h1
      have HVs := Lib.hid (vertices_any g n T wr (HTW.out wr hBr).toTabS)
      have hn : n ≤ 4096 := by omega
      have HAt := Lib.hid (fun (W : World) (hW : Below W2.heap.size W2 W) (v : Int) (hv : 0 ≤ v ∧ v < n) => (show Calls Tryz.prog 41 #[.int .i64 v, .pointer (some ⟨w1.heap.size, 0, none⟩), .pointer (some ⟨w.heap.size, 0, none⟩)] W fun e w' => ∃ q : Nat, e = .returned (.int .i64 (q : Int)) ∧ q < m ∧ Below W.heap.size W w' from by
        have hzW := hW.size
        have hrW := own_below HR2.out hW
        rw [← HF.out] at hrW
        refine (gat_any g w1.heap.size w.heap.size n v T out av cv _ W HS.out (HTW.out W hW) ((hW.cell (p := ⟨w1.heap.size, 0, none⟩) ls0).trans (by rw [HF.out]; exact y0)) ((hW.cell (p := ⟨w.heap.size, 0, none⟩) lt0).trans x0) (by omega) (by omega) hrW HSh.out.len hv).mono ?_
        rintro e w' ⟨i, rfl, hi, hb⟩
        rw [HF.out] at hi
        have := HLM.out i hi
        exact ⟨(at_ out i).toNat, by congr 2; omega, by omega, hb⟩))
      clear hG hc1 ht1 h1 yr hBr hzr
      go_wp2_with fail
      refine HVs.out.mono ?_
      rintro e wE ⟨rfl, rfl⟩
      clear HVs
      go_upto_region 17 with fail
      go_loopw [66] (fun ix wr => ∃ (v : Nat) (cs : List Int), v ≤ n ∧ ix = .int .i64 v ∧ GI W2 T m (.slice (some ⟨gO, 0, none⟩) m m) (.slice (some ⟨gT, 0, none⟩) m m) cs tw wr ∧ (∀ x ∈ cs, x ≤ (F : Int) + v) ∧ (m = 1 → cs = [(v : Int), 0, (F : Int), 0, 0, 0])) (fun ix _ => n - (intOf ix).toNat)
      case atStart => exact ⟨0, cs, Nat.zero_le _, rfl, HG.out, fun x hx => by have := HC1.out x hx; omega, fun h => (H1.out h).1⟩
      case round =>
        clear HG HC1 xr
        rename World => wq
        obtain ⟨v, cs3, hv, rfl, hG, hc1, h1⟩ := hrel
        by_cases hvn : v < n
        · have k3 : (v : Int) < (n : Int) := by omega
          have HAv := Lib.hid (HAt.out wq hG.below (v : Int) (by omega))
          have HG := Lib.hid hG
          clear hG
          go_wp2_with fail
          refine HAv.out.mono ?_
          rintro e wF ⟨q, rfl, hqm, hbF⟩
          have hG := HG.out.le hbF
          obtain ⟨o1, o2, o3, o4, o5⟩ := hG.cellO 0 hqm (by omega)
          simp only [Nat.add_zero] at o1 o2 o3 o4
          have o6 := hc1 _ (at_mem (l := cs3) (j := q * 6) (by rw [hG.cl]; omega))
          have hG2 := hG.putO (q * 6) (at_ cs3 (q * 6) + 1) (by omega)
          have hc2 : ∀ x ∈ cs3.set (q * 6) (at_ cs3 (q * 6) + 1), x ≤ (F : Int) + (v : Int) + 1 := fun x hx => by
            rcases List.mem_or_eq_of_mem_set hx with hx | rfl
            · have := hc1 x hx; omega
            · omega
          have h2 : m = 1 → cs3.set (q * 6) (at_ cs3 (q * 6) + 1) = [(v : Int) + 1, 0, (F : Int), 0, 0, 0] := fun h => by
            obtain rfl : q = 0 := by omega
            rw [h1 h]
            rfl
          have q3 : (q : Int) < (m : Int) := by omega
          have HG2 := Lib.hid hG2
          have HC2 := Lib.hid hc2
          have H2 := Lib.hid h2
          generalize cs3.set (q * 6) (at_ cs3 (q * 6) + 1) = cs4 at *
          generalize at_ cs3 (q * 6) = z at *
          clear hG hG2 hc1 hc2 h1 h2 hbF HG
          go_wp2
          go_roundw
          case measure => simp [intOf]; omega
          case rel => exact ⟨v + 1, cs4, by omega, by go_num, HG2.out, fun x hx => by have := HC2.out x hx; push_cast; omega, fun h => by rw [H2.out h]; push_cast; rfl⟩
        · obtain rfl : n = v := by omega
          have HG := Lib.hid hG
          have HC1 := Lib.hid hc1
          have H3 := Lib.hid h1
          have hBq := hG.below
          have xq := (hBq.cell (p := ⟨w.heap.size, 0, none⟩) lt0).trans x0
          have HLq := Lib.hid (HL.out wq (HB2.out.trans (hBq.mono HB2.out.size)))
          clear hG hc1 h1 hBq
          go_upto_region 21 with fail
          go_wp2_with fail
          refine HLq.out.mono ?_
          rintro e wG ⟨vL, us, L, rfl, hrL, hLn, hLr, hLc, hbG⟩
          obtain ⟨aL, cL, rfl⟩ := ownsRow_slice hrL
          have HG' := Lib.hid (HG.out.le hbG)
          have HLc := Lib.hid hLc
          obtain ⟨lL, hlL⟩ : ∃ l, L.length = l := ⟨_, rfl⟩
          rw [hlL] at hrL hLn
          have HRL := Lib.hid hrL
          have HLr := Lib.hid hLr
          have HlL := Lib.hid hlL
          rw [hlL]
          clear hrL hLr hLc hbG HLq HG hlL
          go_upto_region 22 with fail
          go_loopw [83] (fun ix wr => ∃ (k : Nat) (cs : List Int), k ≤ lL ∧ ix = .int .i64 k ∧ GI W2 T m (.slice (some ⟨gO, 0, none⟩) m m) (.slice (some ⟨gT, 0, none⟩) m m) cs tw wr ∧ (∀ x ∈ cs, x ≤ (F : Int) + n + k) ∧ (m = 1 → cs = [(n : Int), 0, (F : Int), (k : Int), 0, 0]) ∧
            wr.ownsRow wq.heap.size 30 1 (.slice aL lL cL) lL us ∧ (∀ (i : Nat) (u : Value) (r : List Int), us[i]? = some u → L[i]? = some r → wr.ownsRow wq.heap.size 3 1 u r.length (intsV r) ∧ ∃ a r', r = a :: r' ∧ 0 ≤ a ∧ a < n)) (fun ix _ => lL - (intOf ix).toNat)
          case atStart => exact ⟨0, cs3, Nat.zero_le _, rfl, HG'.out, fun x hx => by have := HC1.out x hx; omega, fun h => by rw [H3.out h]; rfl, HRL.out, HLr.out⟩
          case round =>
            clear HG' HC1 H3 HRL HLr xq
            rename World => wr
            obtain ⟨k, cs5, hk, rfl, hG, hc1, h1, hrL, hLr⟩ := hrel
            by_cases hkl : k < lL
            · have k3 : (k : Int) < (lL : Int) := by omega
              obtain ⟨gl, cl, e0, hg1, hg2⟩ := hrL.form (by omega)
              cases e0
              have hul : k < us.length := by have := hrL.1; omega
              have hLl : k < L.length := by rw [HlL.out]; exact hkl
              obtain ⟨hru, a, r', hra, ha0, han⟩ := hLr k us[k] L[k] (List.getElem?_eq_getElem hul) (List.getElem?_eq_getElem hLl)
              have hcu := hrL.cellAt k (by omega)
              rw [List.getElem?_eq_getElem hul] at hcu
              rw [hra] at hru
              obtain ⟨gu, cu, eu, hgu1, hgu2⟩ := hru.form (by simp)
              rw [eu] at hru hcu
              have hca := hru.cellAt 0 (by simp)
              have hca' : wr.cell? ⟨gu, 0, none⟩ = some (.int .i64 a) := hca
              obtain ⟨lr, hlr⟩ : ∃ l, (a :: r').length = l := ⟨_, rfl⟩
              have hlr0 : 0 < lr := by rw [← hlr]; simp
              rw [hlr] at hcu
              have lr3 : (0 : Int) < (lr : Int) := by omega
              have HAv := Lib.hid (HAt.out wr hG.below a ⟨ha0, han⟩)
              have HG := Lib.hid hG
              have HRL := Lib.hid hrL
              have HLr := Lib.hid hLr
              clear hG hrL hLr hru hca hra eu hlr
              go_wp2_with fail
              refine HAv.out.mono ?_
              rintro e wF ⟨q, rfl, hqm, hbF⟩
              have hG := HG.out.le hbF
              obtain ⟨o1, o2, o3, o4, o5⟩ := hG.cellO 3 hqm (by omega)
              have o6 := hc1 _ (at_mem (l := cs5) (j := q * 6 + 3) (by rw [hG.cl]; omega))
              have hG2 := hG.putO (q * 6 + 3) (at_ cs5 (q * 6 + 3) + 1) (by omega)
              have hc2 : ∀ x ∈ cs5.set (q * 6 + 3) (at_ cs5 (q * 6 + 3) + 1), x ≤ (F : Int) + (n : Int) + (k : Int) + 1 := fun x hx => by
                rcases List.mem_or_eq_of_mem_set hx with hx | rfl
                · have := hc1 x hx; omega
                · omega
              have h2 : m = 1 → cs5.set (q * 6 + 3) (at_ cs5 (q * 6 + 3) + 1) = [(n : Int), 0, (F : Int), (k : Int) + 1, 0, 0] := fun h => by
                obtain rfl : q = 0 := by omega
                rw [h1 h]
                rfl
              have q3 : (q : Int) < (m : Int) := by omega
              obtain ⟨st1, st2⟩ := hG.out.stored (q * 6 + 3) (.int .i64 (at_ cs5 (q * 6 + 3) + 1))
              have hrL2 := (own_below HRL.out hbF).kept st2 (own_own_ne (own_below HRL.out hbF) hG.out (by decide))
              have hLr2 : ∀ (i : Nat) (u : Value) (r : List Int), us[i]? = some u → L[i]? = some r → (wF.setCell ⟨gO, q * 6 + 3, none⟩ (.int .i64 (at_ cs5 (q * 6 + 3) + 1))).ownsRow wq.heap.size 3 1 u r.length (intsV r) ∧ ∃ a r', r = a :: r' ∧ 0 ≤ a ∧ a < n := fun i u r hu hr => by
                obtain ⟨b1, b2⟩ := HLr.out i u r hu hr
                exact ⟨(own_below b1 hbF).kept st2 (own_own_ne (own_below b1 hbF) hG.out (by decide)), b2⟩
              have HG2 := Lib.hid hG2
              have HC2 := Lib.hid hc2
              have H2 := Lib.hid h2
              have HRL2 := Lib.hid hrL2
              have HLr2 := Lib.hid hLr2
              generalize cs5.set (q * 6 + 3) (at_ cs5 (q * 6 + 3) + 1) = cs6 at *
              generalize at_ cs5 (q * 6 + 3) = z at *
              clear hG hG2 hc1 hc2 h1 h2 hbF HG st1 st2 hrL2 hLr2 HRL HLr
              go_wp2
              go_roundw
              case measure => simp [intOf]; omega
              case rel => exact ⟨k + 1, cs6, by omega, by go_num, HG2.out, fun x hx => by have := HC2.out x hx; push_cast; omega, fun h => by rw [H2.out h]; push_cast; rfl, HRL2.out, HLr2.out⟩
            · obtain rfl : lL = k := by omega
              have HG := Lib.hid hG
              have HC1 := Lib.hid hc1
              have H3 := Lib.hid h1
              clear hG hc1 h1 hrL hLr
              go_upto_region 27 with fail
              go_loopw [102] (fun ix wr => ∃ (k : Nat) (cs : List Int), k ≤ m ∧ ix = .int .i64 k ∧ Below W2.heap.size W2 wr ∧ wr.ownsRow W2.heap.size 54 6 (.slice (some ⟨gO, 0, none⟩) m m) m (intsV cs) ∧ wr.ownsRow W2.heap.size 3 1 (.slice (some ⟨gT, 0, none⟩) m m) m (intsV tw) ∧
                cs.length = m * 6 ∧ (∀ j, k * 6 ≤ j → at_ cs j = at_ cs5 j) ∧ (k = 0 → cs = cs5) ∧ (m = 1 → k = 1 → cs = [(n : Int), at_ tw 0 / 2, F, (lL : Int), n - at_ tw 0 / 2 + F, (2 - lL - (n - at_ tw 0 / 2 + F)).tdiv 2])) (fun ix _ => m - (intOf ix).toNat)
              case atStart => exact ⟨0, cs5, Nat.zero_le _, rfl, HG.out.below, HG.out.out, HG.out.two, HG.out.cl, fun j _ => rfl, fun _ => rfl, fun _ h => by omega⟩
              case round =>
                rename World => wz
                obtain ⟨k, cs7, hk, rfl, hB, hO, hT2, hcl, hsm, hz, h1⟩ := hrel
                have htl := HG.out.tl
                by_cases hkm : k < m
                · have k3 : (k : Int) < (m : Int) := by omega
                  have cellK : ∀ f, f < 6 → wz.cell? ⟨gO, k * 6 + f, none⟩ = some (.int .i64 (at_ cs5 (k * 6 + f))) := fun f hf => by
                    rw [hO.cellAt _ (by omega), intsV_at (by omega), hsm _ (by omega)]
                  have bdK : ∀ f, f < 6 → 0 ≤ at_ cs5 (k * 6 + f) ∧ at_ cs5 (k * 6 + f) ≤ 30000 := fun f hf => HG.out.cb _ (at_mem (by rw [HG.out.cl]; omega))
                  have tcell : wz.cell? ⟨gT, k, none⟩ = some (.int .i64 (at_ tw k)) := by rw [hT2.cellAt _ (by omega), intsV_at (by omega)]
                  have tbd := HG.out.tb _ (at_mem (l := tw) (j := k) (by omega))
                  have lgO := (hO.lt gO rfl).2
                  have HD := Lib.hid (fun (W : World) (hW : W.heap = wz.heap) => gdone_any gO (k * 6) (at_ cs5 (k * 6)) (at_ cs5 (k * 6 + 2)) (at_ cs5 (k * 6 + 3)) (at_ tw k) (at_ cs5 (k * 6 + 1)) (at_ cs5 (k * 6 + 4)) (at_ cs5 (k * 6 + 5)) W
                    (by unfold World.cell?; rw [hW]; exact cellK 0 (by omega)) (by unfold World.cell?; rw [hW]; exact cellK 1 (by omega)) (by unfold World.cell?; rw [hW]; exact cellK 2 (by omega)) (by unfold World.cell?; rw [hW]; exact cellK 3 (by omega)) (by unfold World.cell?; rw [hW]; exact cellK 4 (by omega)) (by unfold World.cell?; rw [hW]; exact cellK 5 (by omega))
                    (fun j => by unfold World.frozen?; rw [hW]; exact hO.frozenAt j) (by rw [hW]; exact lgO) (by have := bdK 0 (by omega); simp only [Nat.add_zero] at this; omega) (by have := bdK 2 (by omega); omega) (by have := bdK 3 (by omega); omega) (by omega))
                  go_upto_region 29 with fail
                  go_region_with (go_at_call 46; refine (HD.out wz.drew rfl).mono ?_; rintro e wY ⟨⟨vy, rfl⟩, rfl⟩)
                  obtain ⟨s1, s2⟩ := hO.stored (k * 6 + 1) (.int .i64 (at_ tw k / 2))
                  rw [intsV_set] at s1
                  obtain ⟨s3, s4⟩ := s1.stored (k * 6 + 4) (.int .i64 (at_ cs5 (k * 6) - at_ tw k / 2 + at_ cs5 (k * 6 + 2)))
                  rw [intsV_set] at s3
                  obtain ⟨s5, s6⟩ := s3.stored (k * 6 + 5) (.int .i64 ((2 - at_ cs5 (k * 6 + 3) - (at_ cs5 (k * 6) - at_ tw k / 2 + at_ cs5 (k * 6 + 2))).tdiv 2))
                  rw [intsV_set] at s5
                  have gB : ∀ j, some gO = some j → W2.heap.size ≤ j := fun j e => (hO.lt j (by rw [← e]; rfl)).1
                  have u1 := hT2.kept s2 (own_own_ne hT2 hO (by decide))
                  have u2 := u1.kept s4 (own_own_ne u1 s1 (by decide))
                  have u3 := u2.kept s6 (own_own_ne u2 s3 (by decide))
                  have d1 := hB.grown s2 hB.size gB
                  have d2 := d1.grown s4 d1.size gB
                  have d3 := d2.grown s6 d2.size gB
                  have hO3 : World.ownsRow ((((wz.setCell ⟨gO, k * 6 + 1, none⟩ (.int .i64 (at_ tw k / 2))).setCell ⟨gO, k * 6 + 4, none⟩ (.int .i64 (at_ cs5 (k * 6) - at_ tw k / 2 + at_ cs5 (k * 6 + 2)))).setCell ⟨gO, k * 6 + 5, none⟩ (.int .i64 ((2 - at_ cs5 (k * 6 + 3) - (at_ cs5 (k * 6) - at_ tw k / 2 + at_ cs5 (k * 6 + 2))).tdiv 2))).drew.drew.drew) W2.heap.size 54 6 (.slice (some ⟨gO, 0, none⟩) m m) m (intsV (((cs7.set (k * 6 + 1) (at_ tw k / 2)).set (k * 6 + 4) (at_ cs5 (k * 6) - at_ tw k / 2 + at_ cs5 (k * 6 + 2))).set (k * 6 + 5) ((2 - at_ cs5 (k * 6 + 3) - (at_ cs5 (k * 6) - at_ tw k / 2 + at_ cs5 (k * 6 + 2))).tdiv 2))) := s5
                  have hT3 : World.ownsRow ((((wz.setCell ⟨gO, k * 6 + 1, none⟩ (.int .i64 (at_ tw k / 2))).setCell ⟨gO, k * 6 + 4, none⟩ (.int .i64 (at_ cs5 (k * 6) - at_ tw k / 2 + at_ cs5 (k * 6 + 2)))).setCell ⟨gO, k * 6 + 5, none⟩ (.int .i64 ((2 - at_ cs5 (k * 6 + 3) - (at_ cs5 (k * 6) - at_ tw k / 2 + at_ cs5 (k * 6 + 2))).tdiv 2))).drew.drew.drew) W2.heap.size 3 1 (.slice (some ⟨gT, 0, none⟩) m m) m (intsV tw) := u3
                  have hB3 : Below W2.heap.size W2 ((((wz.setCell ⟨gO, k * 6 + 1, none⟩ (.int .i64 (at_ tw k / 2))).setCell ⟨gO, k * 6 + 4, none⟩ (.int .i64 (at_ cs5 (k * 6) - at_ tw k / 2 + at_ cs5 (k * 6 + 2)))).setCell ⟨gO, k * 6 + 5, none⟩ (.int .i64 ((2 - at_ cs5 (k * 6 + 3) - (at_ cs5 (k * 6) - at_ tw k / 2 + at_ cs5 (k * 6 + 2))).tdiv 2))).drew.drew.drew) := d3.drew.drew.drew
                  generalize ((((wz.setCell ⟨gO, k * 6 + 1, none⟩ (.int .i64 (at_ tw k / 2))).setCell ⟨gO, k * 6 + 4, none⟩ (.int .i64 (at_ cs5 (k * 6) - at_ tw k / 2 + at_ cs5 (k * 6 + 2)))).setCell ⟨gO, k * 6 + 5, none⟩ (.int .i64 ((2 - at_ cs5 (k * 6 + 3) - (at_ cs5 (k * 6) - at_ tw k / 2 + at_ cs5 (k * 6 + 2))).tdiv 2))).drew.drew.drew) = wX at *
                  have hcl3 : (((cs7.set (k * 6 + 1) (at_ tw k / 2)).set (k * 6 + 4) (at_ cs5 (k * 6) - at_ tw k / 2 + at_ cs5 (k * 6 + 2))).set (k * 6 + 5) ((2 - at_ cs5 (k * 6 + 3) - (at_ cs5 (k * 6) - at_ tw k / 2 + at_ cs5 (k * 6 + 2))).tdiv 2)).length = m * 6 := by simp [hcl]
                  have hsm3 : ∀ j, (k + 1) * 6 ≤ j → at_ (((cs7.set (k * 6 + 1) (at_ tw k / 2)).set (k * 6 + 4) (at_ cs5 (k * 6) - at_ tw k / 2 + at_ cs5 (k * 6 + 2))).set (k * 6 + 5) ((2 - at_ cs5 (k * 6 + 3) - (at_ cs5 (k * 6) - at_ tw k / 2 + at_ cs5 (k * 6 + 2))).tdiv 2)) j = at_ cs5 j := fun j hj => by
                    rw [← hsm j (by omega)]
                    unfold at_
                    simp only [List.getD_eq_getElem?_getD]
                    rw [List.getElem?_set_ne (by omega), List.getElem?_set_ne (by omega), List.getElem?_set_ne (by omega)]
                  have h5 : m = 1 → k + 1 = 1 → (((cs7.set (k * 6 + 1) (at_ tw k / 2)).set (k * 6 + 4) (at_ cs5 (k * 6) - at_ tw k / 2 + at_ cs5 (k * 6 + 2))).set (k * 6 + 5) ((2 - at_ cs5 (k * 6 + 3) - (at_ cs5 (k * 6) - at_ tw k / 2 + at_ cs5 (k * 6 + 2))).tdiv 2)) = [(n : Int), at_ tw 0 / 2, F, (lL : Int), n - at_ tw 0 / 2 + F, (2 - lL - (n - at_ tw 0 / 2 + F)).tdiv 2] := fun hm1 hk1 => by
                    obtain rfl : k = 0 := by omega
                    rw [hz rfl, H3.out hm1]
                    rfl
                  have HO3 := Lib.hid hO3
                  have HT3 := Lib.hid hT3
                  have HB3 := Lib.hid hB3
                  have HCL3 := Lib.hid hcl3
                  have HSM3 := Lib.hid hsm3
                  have H5 := Lib.hid h5
                  clear hO3 hT3 hB3 hcl3 hsm3 h5 s1 s2 s3 s4 s5 s6 u1 u2 u3 d1 d2 d3 hO hT2 hB hsm hz h1 hcl cellK bdK tcell HD
                  generalize ((cs7.set (k * 6 + 1) (at_ tw k / 2)).set (k * 6 + 4) (at_ cs5 (k * 6) - at_ tw k / 2 + at_ cs5 (k * 6 + 2))).set (k * 6 + 5) ((2 - at_ cs5 (k * 6 + 3) - (at_ cs5 (k * 6) - at_ tw k / 2 + at_ cs5 (k * 6 + 2))).tdiv 2) = cs8 at *
                  go_wp2
                  go_roundw
                  case measure => simp [intOf]; omega
                  case rel => exact ⟨k + 1, cs8, by omega, by go_num, HB3.out, HO3.out, HT3.out, HCL3.out, HSM3.out, fun h => by omega, H5.out⟩
                · obtain rfl : m = k := by omega
                  have HOz := Lib.hid (own_base hO HB2.out.size)
                  have HBz := Lib.hid (HB2.out.trans (hB.mono HB2.out.size))
                  have H6 := Lib.hid h1
                  clear hO hT2 hB hsm hz h1 hcl
                  go_wp2
                  go_ret
                  refine ⟨_, out, m, cs7, rfl, HSh.out, HM.out, HOz.out, fun hm1 => ⟨at_ tw 0 / 2, lL, H6.out hm1 hm1, by omega, ?_, fun hc => ?_⟩, HBz.out⟩
                  · rw [← HLc.out, ← HlL.out]
                    cases L <;> simp
                    omega
                  · rw [(H1.out hm1).2 hc]
                    rfl
end Go.Proofs.YtpnkhgjjlionnaaGreat
namespace Go.Proofs.YtpnkhgjjlionnaaGreat
open Go.RowKit

/-- What speaks of the caller's blocks alone. -/
def Stable {α : Type} (B0 : Nat) (I : α → (Nat → Prop) → World → Prop) : Prop :=
  ∀ xs C A B, I xs C A → Below B0 A B → (∀ k, C k → B.heap[k]? = A.heap[k]?) → I xs C B
/-- A set of blocks is taken over: what is more was laid anew. -/
def Anew (C C' : Nat → Prop) (W W' : World) : Prop := ∀ k, C' k → C k ∨ (W.heap.size ≤ k ∧ k < W'.heap.size)
/-- The iterator's contract. -/
def SeqSep {α : Type} (F : Fence) (n : Nat) (P : Program) (g : Nat) (lb : Array Value) (encs : α → Array Value) (Fin Sp : List α → Prop) (N : Nat) (w0 : World) (R : Nat → Prop) (Pre : World → Prop) : Prop :=
  ∀ (l : Nat) (J Jx : List α → (Nat → Prop) → World → Prop) (W : World) (C : Nat → Prop), Below w0.heap.size w0 W → Pre W → (∀ k, R k → k < W.heap.size) → Stable w0.heap.size J → Stable w0.heap.size Jx →
    (∀ pre x C1 W1, J pre C1 W1 → pre.length < N → YieldAt F (n - 1) P l (encs x) W1 fun e W' =>
      Kept C1 W1 W' ∧ ∃ C', Anew C1 C' W1 W' ∧ ((e = .returned (.bool true) ∧ J (pre ++ [x]) C' W') ∨ (e = .returned (.bool false) ∧ Jx (pre ++ [x]) C' W'))) →
    J [] C W → (∀ k, C k → w0.heap.size ≤ k ∧ k < W.heap.size ∧ ¬ R k) →
    CallsIn F n P g (#[.func (.yield l) #[] #[]] ++ lb) W fun e W' => (∃ v, e = .returned v) ∧ ((∃ xs C', Fin xs ∧ J xs C' W') ∨ (∃ pre C', Sp pre ∧ Jx pre C' W'))
/-- How a round's body may be left. -/
def sepPost {α : Type} (I : List α → (Nat → Prop) → World → Prop) (Ix : Code → List α → (Nat → Prop) → World → Prop) (C : Nat → Prop) (xs : List α) (W : World) : Exit → Act → World → Prop
  | .normal, _, W' => Kept C W W' ∧ ∃ C', Anew C C' W W' ∧ I xs C' W'
  | .ret, _, W' => Kept C W W' ∧ ∃ C', Anew C C' W W' ∧ Ix .ret xs C' W'
  | .exit id, _, W' => Kept C W W' ∧ ∃ C', Anew C C' W W' ∧ Ix (.exit id) xs C' W'
  | .goto t, _, W' => Kept C W W' ∧ ∃ C', Anew C C' W W' ∧ Ix (.goto t) xs C' W'
  | .panic _, _, _ => False
  | .outgrown, _, _ => False

variable {F : Fence} {n : Nat} {P : Program} {w : World}
theorem putObj_below {B l : Nat} {W : World} {o : Obj} (h : B ≤ l) : Below B W (W.putObj l o) := ⟨rfl, rfl, rfl, by simp, fun k hk => World.putObj_heap_other (by omega)⟩
theorem putObj_kept {S : Nat → Prop} {l : Nat} {W : World} {o : Obj} (h : S l) : Kept S W (W.putObj l o) := ⟨rfl, rfl, rfl, by simp, fun k _ hn => World.putObj_heap_other (fun e => hn (by rw [e]; exact h))⟩

set_option maxHeartbeats 1000000 in
theorem wpIn_rangeFunc_sep {α : Type} {g : Operand} {ps : Array Tmp} {assign body : Code} {Q : Exit → Act → World → Prop} {a : Act} {w : World}
    (hro : F.round = none) (h1 : 1 ≤ n) {gf : Nat} {lb : Array Value} (hg : a.eval g = .func (.func gf) #[] lb) (hFg : F.fn gf) (eg : ∀ args w, (callFunc gf args).run P w = .ok (.enter gf args) w)
    {encs : α → Array Value} {Fin Sp : List α → Prop} {N : Nat} {w0 : World} {R : Nat → Prop} {Pre : World → Prop} (hseq : SeqSep F (n - 1) P gf lb encs Fin Sp N w0 R Pre) (hpre : ∀ W, Below w.heap.size w W → Pre W) (hR : ∀ k, R k → k < w.heap.size) (hb0 : Below w0.heap.size w0 w) (hps : ∀ x, (encs x).size = ps.size)
    (I : List α → (Nat → Prop) → World → Prop) (Ix : Code → List α → (Nat → Prop) → World → Prop) (hI : Stable w0.heap.size I) (hIx : ∀ c, Stable w0.heap.size (Ix c)) (C0 : Nat → Prop) (hC0 : ∀ k, C0 k → w0.heap.size ≤ k ∧ k < w.heap.size ∧ ¬ R k) (h0 : I [] C0 w)
    (hround : ∀ (l : Nat) (pre : List α) (x : α) (C : Nat → Prop) (W : World), w.heap.size ≤ l → l < W.heap.size → I pre C W → (∀ k, C k → w0.heap.size ≤ k ∧ k < W.heap.size) → pre.length < N →
      assign.wpIn (F.inRound l) (n - 1 - 1) P (Exit.then (fun a' W1 => Kept C W W1 ∧ I pre C W1 ∧ ∀ W2, Kept (fun k => k = l) W1 W2 → I pre C W2 → (∀ k, C k → w0.heap.size ≤ k ∧ k < W2.heap.size) → W2.heap.size = W1.heap.size → body.wpIn (F.inRound l) (n - 1 - 1) P (sepPost I Ix C (pre ++ [x]) W2) a' W2) (fun _ _ _ => False))
        { tmps := (ps.zip (encs x)).foldl (fun t (p, v) => t.setIfInBounds p v) a.tmps, defers := [] } W)
    (hdone : ∀ (D : Nat) (xs : List α) (C : Nat → Prop) (W : World), w.heap.size ≤ D → ¬ C D → Fin xs → I xs C W → W.heap[D]? = some (.deferred (some [])) → Q .normal { a with defers := { target := .collected D, args := #[] } :: a.defers } W)
    (hstop : ∀ (D : Nat) (c : Code) (pre : List α) (C : Nat → Prop) (W : World), w.heap.size ≤ D → ¬ C D → Sp pre → Ix c pre C W → W.heap[D]? = some (.deferred (some [])) → c.wpIn F n P Q { a with defers := { target := .collected D, args := #[] } :: a.defers } W) :
    (Code.rangeFunc g ps assign body).wpIn F n P Q a w := by
  refine wpIn_rangeFunc ?_
  intro fn hfn
  rw [hro]
  obtain ⟨rec, hrec⟩ : ∃ rec : LoopState → Option Code → Loop, rec = fun st pe => { state := st, pending := pe, fn, tmps := a.tmps, params := ps, assign, body, defers := w.heap.size } := ⟨_, rfl⟩
  obtain ⟨W1, hW1⟩ : ∃ W1, (w.alloc (.deferred (some []))).alloc (.loop (rec .ready none)) = W1 := ⟨_, rfl⟩
  have hL1 : W1.heap[w.heap.size + 1]? = some (.loop (rec .ready none)) := by
    rw [← hW1]; have := World.alloc_heap_new (w.alloc (.deferred (some []))) (.loop (rec .ready none)); rwa [World.size_alloc] at this
  have hK1 : W1.heap[w.heap.size]? = some (.deferred (some [])) := by
    rw [← hW1]; exact (Below.heap_alloc _ _ _ (by simp)).trans (World.alloc_heap_new w _)
  have hz1 : W1.heap.size = w.heap.size + 2 := by rw [← hW1]; simp
  have hbw : Below w.heap.size w W1 := by rw [← hW1]; exact ((Below.refl _ w).alloc (Nat.le_refl _) _).alloc (by simp) _
  have hz0 := hb0.size
  have hI1 : I [] C0 W1 := hI _ _ _ _ h0 (hbw.mono hz0) (fun k hk => hbw.block k (hC0 k hk).2.1)
  have hb1 : Below w0.heap.size w0 W1 := hb0.trans (hbw.mono hz0)
  -- the law's own set
  let J : (List α → (Nat → Prop) → World → Prop) → (World → Prop) → List α → (Nat → Prop) → World → Prop := fun I R pre C W => ∃ Cu, (∀ k, C k ↔ Cu k ∨ k = w.heap.size ∨ k = w.heap.size + 1) ∧ I pre Cu W ∧ (∀ k, Cu k → w0.heap.size ≤ k ∧ k < W.heap.size ∧ k ≠ w.heap.size ∧ k ≠ w.heap.size + 1) ∧ R W ∧ W.heap[w.heap.size]? = some (.deferred (some []))
  have hJ : ∀ (I : List α → (Nat → Prop) → World → Prop) (R : World → Prop), Stable w0.heap.size I → (∀ A B : World, R A → B.heap[w.heap.size + 1]? = A.heap[w.heap.size + 1]? → R B) → Stable w0.heap.size (J I R) := by
    rintro I R hI hR xs C A B ⟨Cu, hC, hi, hbd, hl, hd⟩ hbel hsame
    exact ⟨Cu, hC, hI _ _ _ _ hi hbel (fun k hk => hsame k ((hC k).2 (.inl hk))), fun k hk => by have := hbd k hk; have := hbel.size; omega, hR _ _ hl (hsame _ ((hC _).2 (.inr (.inr rfl)))), (hsame _ ((hC _).2 (.inr (.inl rfl)))).trans hd⟩
  refine ⟨w.heap.size + 1, [{ target := .collected w.heap.size, args := #[] }], W1, { target := .fn (.func gf) lb, args := #[.func (.yield (w.heap.size + 1)) #[] #[]] }, W1, gf,
    #[.func (.yield (w.heap.size + 1)) #[] #[]] ++ lb, W1, ?_, ?_, ?_, ?_, fun _ => h1, ?_⟩
  · rw [← hW1, hrec]; exact run_enterLoop_outer _ _ _ _ _
  · simp only [resolve, hg]
    simp [go_sem]
  · intro f' hf'; simp [Target.leads] at hf'; subst hf'; exact hFg
  · simp [invoke, go_sem, eg]
  · refine (hseq (w.heap.size + 1) (J I (fun W => W.heap[w.heap.size + 1]? = some (.loop (rec .ready none)))) (J (fun xs C W => ∃ c, Ix c xs C W ∧ W.heap[w.heap.size + 1]? = some (.loop (rec .done (some c)))) (fun _ => True)) W1
      (fun k => C0 k ∨ k = w.heap.size ∨ k = w.heap.size + 1) hb1 (hpre W1 hbw) (fun k hk => by have := hR k hk; omega) (hJ _ _ hI (fun A B h e => e.trans h)) ?_ ?_ ⟨C0, fun k => Iff.rfl, hI1, fun k hk => by have := hC0 k hk; omega, hL1, hK1⟩ (fun k hk => by
        have hR' := hR k
        rcases hk with hk | hk | hk
        · have := hC0 k hk; exact ⟨this.1, by omega, this.2.2⟩
        · exact ⟨by omega, by omega, fun h => by have := hR' h; omega⟩
        · exact ⟨by omega, by omega, fun h => by have := hR' h; omega⟩)).mono ?_
    · rintro xs C A B ⟨Cu, hC, ⟨c, hc, hl⟩, hbd, -, hd⟩ hbel hsame
      exact ⟨Cu, hC, ⟨c, hIx c _ _ _ _ hc hbel (fun k hk => hsame k ((hC k).2 (.inl hk))), (hsame _ ((hC _).2 (.inr (.inr rfl)))).trans hl⟩, fun k hk => by have := hbd k hk; have := hbel.size; omega, trivial, (hsame _ ((hC _).2 (.inr (.inl rfl)))).trans hd⟩
    · -- one round
      rintro pre x C W ⟨Cu, hC, hi, hbd, hl, hk⟩ hlen
      have hlt : w.heap.size + 1 < W.heap.size := (Array.getElem?_eq_some_iff.1 hl).1
      have hy := run_yield (P := P) (args := encs x) hl (by rw [hrec]; exact hps x)
      rw [hrec] at hy
      refine ⟨fn, _, assign, body, hy, roundIn_of_wpIn hfn (wpIn_mono (hround (w.heap.size + 1) pre x Cu W (by omega) hlt hi (fun k hk => ⟨(hbd k hk).1, (hbd k hk).2.1⟩) hlen) ?_)⟩
      clear hy
      intro e a' Wa hp
      cases e with
      | normal =>
        obtain ⟨hka, hia, hb⟩ := hp
        have hla := (hka.block _ hlt (fun h => (hbd _ h).2.2.2 rfl)).trans hl
        have hda := (hka.block _ (by omega) (fun h => (hbd _ h).2.2.1 rfl)).trans hk
        have hza := hka.size
        refine ⟨_, run_beginRound hla (by rw [hrec]), ?_⟩
        obtain ⟨W2, hW2⟩ : ∃ W2, Wa.putObj (w.heap.size + 1) (.loop { rec .ready none with state := .busy }) = W2 := ⟨_, rfl⟩
        have hl2 : W2.heap[w.heap.size + 1]? = some (.loop { rec .ready none with state := .busy }) := by rw [← hW2]; exact World.putObj_heap_same (by omega)
        have hd2 : W2.heap[w.heap.size]? = some (.deferred (some [])) := by rw [← hW2]; exact (World.putObj_heap_other (by omega)).trans hda
        have hz2 : W2.heap.size = Wa.heap.size := by rw [← hW2]; simp
        have hk2 : Kept (fun k => k = w.heap.size + 1) Wa W2 := by rw [← hW2]; exact putObj_kept rfl
        have hi2 : I pre Cu W2 := by
          refine hI _ _ _ _ hia ?_ (fun k hk => ?_)
          · rw [← hW2]; exact putObj_below (by omega)
          · rw [← hW2]; exact World.putObj_heap_other (hbd k hk).2.2.2
        rw [hW2]
        refine wpIn_mono (hb W2 hk2 hi2 (fun k hk => by have := hbd k hk; omega) hz2) ?_
        have fin : ∀ (jump : Option Code) (W3 : World) (C' : Nat → Prop), Kept Cu W2 W3 → Anew Cu C' W2 W3 →
            (Instr.endRound (w.heap.size + 1) jump).run P W3 = .ok (.bool jump.isNone) (W3.putObj (w.heap.size + 1) (.loop (rec (if jump.isNone then .ready else .done) jump))) ∧
            (W3.putObj (w.heap.size + 1) (.loop (rec (if jump.isNone then .ready else .done) jump))).heap[w.heap.size + 1]? = some (.loop (rec (if jump.isNone then .ready else .done) jump)) ∧
            (W3.putObj (w.heap.size + 1) (.loop (rec (if jump.isNone then .ready else .done) jump))).heap[w.heap.size]? = some (.deferred (some [])) ∧
            Kept C W (W3.putObj (w.heap.size + 1) (.loop (rec (if jump.isNone then .ready else .done) jump))) ∧
            Anew C (fun k => C' k ∨ k = w.heap.size ∨ k = w.heap.size + 1) W (W3.putObj (w.heap.size + 1) (.loop (rec (if jump.isNone then .ready else .done) jump))) ∧
            (∀ k, C' k → w0.heap.size ≤ k ∧ k < (W3.putObj (w.heap.size + 1) (.loop (rec (if jump.isNone then .ready else .done) jump))).heap.size ∧ k ≠ w.heap.size ∧ k ≠ w.heap.size + 1) := fun jump W3 C' hk3 hn3 => by
          have hl3 := (hk3.block _ (by omega) (fun h => (hbd _ h).2.2.2 rfl)).trans hl2
          have hd3 := (hk3.block _ (by omega) (fun h => (hbd _ h).2.2.1 rfl)).trans hd2
          have hz3 := hk3.size
          have := run_endRound (P := P) jump hl3
          rw [hrec] at this ⊢
          refine ⟨this, World.putObj_heap_same (by omega), (World.putObj_heap_other (by omega)).trans hd3, ?_, ?_, ?_⟩
          · have c1 : Kept C W Wa := hka.mono (fun k hk => (hC k).2 (.inl hk))
            have c2 : Kept C Wa W2 := hk2.mono (fun k hk => (hC k).2 (.inr (.inr hk)))
            have c3 : Kept C W2 W3 := hk3.mono (fun k hk => (hC k).2 (.inl hk))
            exact ((c1.trans c2).trans c3).trans (putObj_kept ((hC _).2 (.inr (.inr rfl))))
          · intro k hk
            rw [World.putObj_size]
            rcases hk with hk | hk | hk
            · rcases hn3 k hk with h | h
              · exact .inl ((hC k).2 (.inl h))
              · exact .inr (by omega)
            · exact .inl ((hC k).2 (.inr (.inl hk)))
            · exact .inl ((hC k).2 (.inr (.inr hk)))
          · intro k hk
            rw [World.putObj_size]
            rcases hn3 k hk with h | h
            · have := hbd k h
              omega
            · omega
        have put : ∀ {J : List α → (Nat → Prop) → World → Prop} (xs : List α) (C' : Nat → Prop) (W3 : World) (o : Obj), Stable w0.heap.size J → J xs C' W3 → (∀ k, C' k → k ≠ w.heap.size + 1) → J xs C' (W3.putObj (w.heap.size + 1) o) := fun xs C' W3 o hJ h hk => hJ _ _ _ _ h (putObj_below (by omega)) (fun k h' => World.putObj_heap_other (hk k h'))
        rintro e a3 W3 hp
        cases e with
        | normal =>
          obtain ⟨hk3, C', hn3, hi3⟩ := hp
          obtain ⟨hr, hl4, hd4, c4, n4, b4⟩ := fin none W3 C' hk3 hn3
          exact ⟨_, _, hr, c4, _, n4, .inl ⟨rfl, C', fun k => Iff.rfl, put _ _ _ _ hI hi3 (fun k h => (b4 k h).2.2.2), b4, hl4, hd4⟩⟩
        | ret =>
          obtain ⟨hk3, C', hn3, hi3⟩ := hp
          obtain ⟨hr, hl4, hd4, c4, n4, b4⟩ := fin (some .ret) W3 C' hk3 hn3
          exact ⟨_, _, hr, c4, _, n4, .inr ⟨rfl, C', fun k => Iff.rfl, ⟨.ret, put _ _ _ _ (hIx _) hi3 (fun k h => (b4 k h).2.2.2), hl4⟩, b4, trivial, hd4⟩⟩
        | exit id =>
          obtain ⟨hk3, C', hn3, hi3⟩ := hp
          obtain ⟨hr, hl4, hd4, c4, n4, b4⟩ := fin (some (.exit id)) W3 C' hk3 hn3
          exact ⟨_, _, hr, c4, _, n4, .inr ⟨rfl, C', fun k => Iff.rfl, ⟨.exit id, put _ _ _ _ (hIx _) hi3 (fun k h => (b4 k h).2.2.2), hl4⟩, b4, trivial, hd4⟩⟩
        | goto t =>
          obtain ⟨hk3, C', hn3, hi3⟩ := hp
          obtain ⟨hr, hl4, hd4, c4, n4, b4⟩ := fin (some (.goto t)) W3 C' hk3 hn3
          exact ⟨_, _, hr, c4, _, n4, .inr ⟨rfl, C', fun k => Iff.rfl, ⟨.goto t, put _ _ _ _ (hIx _) hi3 (fun k h => (b4 k h).2.2.2), hl4⟩, b4, trivial, hd4⟩⟩
        | panic ch => exact hp.elim
        | outgrown => exact hp.elim
      | ret => exact hp.elim
      | exit id => exact hp.elim
      | goto t => exact hp.elim
      | panic ch => exact hp.elim
      | outgrown => exact hp.elim
    · -- behind the iterator
      rintro e W2 ⟨⟨v, rfl⟩, (⟨xs, C', hS, Cu, hC, hi, hbd, hl, hd⟩ | ⟨pre, C', hSp, Cu, hC, ⟨c, hi, hl⟩, hbd, -, hd⟩)⟩
      · exact ⟨none, _, by have := run_endLoop (P := P) hl (by rw [hrec]; simp); rw [hrec] at this; exact this, hdone _ xs Cu _ (Nat.le_refl _) (fun h => (hbd _ h).2.2.1 rfl) hS (hI _ _ _ _ hi (putObj_below (by omega)) (fun k hk => World.putObj_heap_other (hbd k hk).2.2.2)) ((World.putObj_heap_other (by omega)).trans hd)⟩
      · exact ⟨some c, _, by have := run_endLoop (P := P) hl (by rw [hrec]; simp); rw [hrec] at this; exact this, hstop _ c pre Cu _ (Nat.le_refl _) (fun h => (hbd _ h).2.2.1 rfl) hSp (hIx c _ _ _ _ hi (putObj_below (by omega)) (fun k hk => World.putObj_heap_other (hbd k hk).2.2.2)) ((World.putObj_heap_other (by omega)).trans hd)⟩
end Go.Proofs.YtpnkhgjjlionnaaGreat
namespace Go.Proofs.YtpnkhgjjlionnaaGreat
open Go.RowKit Go.Maps Go.Shelf
attribute [local go_sem] Oper.semAt_some

set_option maxHeartbeats 1000000 in
theorem edgesC_any (g : Nat) (N : Int) (T : List Tr) (w : World) (h : Tab w g N T) (hc : ClosedT T) : Calls Tryz.prog 118 #[.pointer (some ⟨g, 0, none⟩)] w fun e w' => e = .returned (.slice none 0 0) ∧ Below w.heap.size w w' := by
  have H0 := Lib.hid (triangles_any g N T w h.toTabS)
  have HO := Lib.hid (fun (W : World) (c : Int) (hW : Below w.heap.size w W) => opp_any g N c T W (h.below hW))
  have HP := Lib.hid (fun c (hk : c < 3 * T.length) => hc c hk)
  have hl := h.len
  obtain ⟨F, hF⟩ : ∃ F, T.length = F := ⟨_, rfl⟩
  rw [hF] at hl H0 HP
  clear hF h hc
  go_enter Tryz.func118, Tryz.ntmps118
  go_wp2_with fail
  refine H0.out.mono ?_
  rintro e w0 ⟨rfl, rfl⟩
  go_wp2
  go_loopw [3, 10] (fun v3 ix wr => ∃ k : Nat, k ≤ 3 * F ∧ v3 = .slice none 0 0 ∧ ix = .int .i64 k ∧ Below w.heap.size w wr) (fun _ ix _ => 3 * F - (intOf ix).toNat)
  case atStart => exact ⟨0, Nat.zero_le _, rfl, rfl, Below.refl _ _⟩
  case round =>
    obtain ⟨k, hk, rfl, rfl, hB⟩ := hrel
    rename World => wr
    by_cases hlt : k < 3 * F
    · have k3 : (k : Int) < 3 * (F : Int) := by omega
      have hp := HP.out k hlt
      have HB := Lib.hid hB
      clear hB
      go_wp2_with fail
      refine (HO.out wr k HB.out).mono ?_
      rintro e w2 ⟨rfl, hb2⟩
      have hB2 := HB.out.trans (hb2.mono HB.out.size)
      have HB2 := Lib.hid hB2
      clear hb2 hB2
      go_wp2
      go_roundw
      case measure => simp [intOf]; omega
      case rel => exact ⟨k + 1, by omega, rfl, by go_num, HB2.out⟩
    · obtain rfl : k = 3 * F := by omega
      go_wp2
      go_ret
      exact ⟨rfl, hB⟩

set_option maxHeartbeats 1000000 in
theorem behindC_any (g : Nat) (N : Int) (T : List Tr) (w : World) (h : Tab w g N T) (hc : ClosedT T) : Calls Tryz.prog 99 #[.pointer (some ⟨g, 0, none⟩)] w fun e w' => ∃ b, e = .returned (.map (some b)) ∧ w.heap.size ≤ b ∧ MapP Tryz.prog 3 w' b (fun _ => none) ∧ Below w.heap.size w w' := by
  have hB : Below w.heap.size w (w.alloc (.map #[] 0)) := (Below.refl _ _).alloc (Nat.le_refl _) _
  have HB := Lib.hid hB
  have HM := Lib.hid (MapP.made w Tryz.prog 3)
  have HE := Lib.hid (edgesC_any g N T _ (h.below hB) hc)
  clear hB h hc
  have hmm := @run_makeMap Tryz.prog
  go_enter Tryz.func99, Tryz.ntmps99
  go_wp2_with fail
  refine HE.out.mono ?_
  rintro e w1 ⟨rfl, hb1⟩
  go_wp2
  go_loopw [10] (fun ix wr => ix = .int .i64 0 ∧ wr = w1) (fun _ _ => 0)
  case atStart => exact ⟨rfl, rfl⟩
  case round =>
    obtain ⟨rfl, rfl⟩ := hrel
    go_wp2
    go_ret
    exact ⟨_, rfl, Nat.le_refl _, HM.out.below hb1 (by simp), HB.out.trans (hb1.mono HB.out.size)⟩

set_option maxHeartbeats 1000000 in
/-- border.Walk: the function value holds the table and the vertex in boxes. -/
theorem bwalk_any (F : Fence) (n : Nat) (h6 : F.fn 71) (hro : F.round = none) (g : Nat) (v : Int) (w : World) :
    CallsIn F n Tryz.prog 71 #[.pointer (some ⟨g, 0, none⟩), .int .i64 v] w fun e w' => e = .returned (.func (.func 98) #[] #[.pointer (some ⟨w.heap.size, 0, none⟩), .pointer (some ⟨w.heap.size + 1, 0, none⟩)]) ∧ w' = (w.alloc (.cells #[.pointer (some ⟨g, 0, none⟩)] 26)).alloc (.cells #[.int .i64 v] 3) := by
  refine callsIn_of_wp Tryz.func71 rfl h6 ?_ hro
  simp only [Tryz.ntmps71, List.size_toArray, List.length_cons, List.length_nil, Nat.reduceAdd, Nat.reduceSub, Array.replicate_succ, Array.replicate_zero, List.push_toArray, List.append_toArray, List.nil_append, List.cons_append]
  gi_wp2
  go_ret
  exact ⟨rfl, rfl⟩

set_option maxRecDepth 100000 in
set_option maxHeartbeats 1000000 in
/-- On a closed surface it yields nothing. -/
theorem bwalk1C_in (n : Nat) (l Bt Bv g : Nat) (N : Int) (T : List Tr) (v : Nat) (hv : v ≤ 5000) (hc : ClosedT T) (W : World) (hT : Tab W g N T) (ht : W.cell? ⟨Bt, 0, none⟩ = some (.pointer (some ⟨g, 0, none⟩))) (hvc : W.cell? ⟨Bv, 0, none⟩ = some (.int .i64 v)) (lt : Bt < W.heap.size) (lv : Bv < W.heap.size) :
    CallsIn Fence.wide n Tryz.prog 98 #[.func (.yield l) #[] #[], .pointer (some ⟨Bt, 0, none⟩), .pointer (some ⟨Bv, 0, none⟩)] W fun e W' => (∃ v, e = .returned v) ∧ Below W.heap.size W W' := by
  refine callsIn_of_wp Tryz.func98 rfl trivial ?_ rfl
  have HE := Lib.hid (behindC_any g N T W hT hc)
  clear hT hc
  simp only [Tryz.ntmps98, List.size_toArray, List.length_cons, List.length_nil, Nat.reduceAdd, Nat.reduceSub, Array.replicate_succ, Array.replicate_zero, List.push_toArray, List.append_toArray, List.nil_append, List.cons_append]
  gi_wp2_with fail
  refine ⟨trivial, fun h => (by simp [Fence.wide] at h), (callsIn_wide.2 HE.out).mono ?_⟩
  rintro e w1 ⟨b, rfl, hb, hm, hB⟩
  have hkeyv := keyOf_int_mk (P := Tryz.prog) (k := 3) (q := .i64) Tryz.underlying3 (wfV (x := (v : Int)) ⟨by omega, by omega⟩)
  have hlk := hm.lookOk (t := 97) (int_keyed Tryz.underlying3) Tryz.underlying97 (zero_int _) hkeyv
  have t1 := (hB.cell (p := ⟨Bt, 0, none⟩) lt).trans ht
  have v1 := (hB.cell (p := ⟨Bv, 0, none⟩) lv).trans hvc
  have HB := Lib.hid hB
  clear hB hm
  gi_wp2
  refine ⟨fun f h => (by cases h), ?_⟩
  gi_wp2
  refine bodyPost_ret (results_none rfl _ _ _) rfl ?_
  exact ⟨⟨_, rfl⟩, HB.out⟩
theorem bwalk_sep0 {w : World} {n Bt Bv g : Nat} {N : Int} {T : List Tr} {v : Nat} (hv : v ≤ 5000) (hc : ClosedT T) (hT : Tab w g N T) (ht : w.cell? ⟨Bt, 0, none⟩ = some (.pointer (some ⟨g, 0, none⟩))) (hvc : w.cell? ⟨Bv, 0, none⟩ = some (.int .i64 v)) (lt : Bt < w.heap.size) (lv : Bv < w.heap.size) :
    SeqSep Fence.wide n Tryz.prog 98 #[.pointer (some ⟨Bt, 0, none⟩), .pointer (some ⟨Bv, 0, none⟩)] (fun x : Int => #[.int .i64 x]) (fun _ => True) (fun _ => True) 0 w (fun _ => False) (fun _ => True) := by
  intro l J Jx W C hW _ _ hJ _ _ h0 hC
  have hz := hW.size
  refine (bwalk1C_in n l Bt Bv g N T v hv hc W (hT.below hW) ((hW.cell (p := ⟨Bt, 0, none⟩) lt).trans ht) ((hW.cell (p := ⟨Bv, 0, none⟩) lv).trans hvc) (by omega) (by omega)).mono ?_
  rintro e W' ⟨h1, h2⟩
  exact ⟨h1, .inl ⟨[], C, trivial, hJ _ _ _ _ h0 (h2.mono hz) (fun k hk => h2.block k (hC k hk).2.1)⟩⟩
theorem put_calm2 {W : World} {D : Nat} (o : Obj) : W.grownBy (W.putObj D o) (some D) := grownBy_putObj' W D o

set_option maxRecDepth 100000 in
set_option maxHeartbeats 1000000 in
theorem appendSeq0 (w : World) (gf : Nat) (lb : Array Value) (eg : ∀ args w, (callFunc gf args).run Tryz.prog w = .ok (.enter gf args) w) (hseq : SeqSep Fence.wide 8 Tryz.prog gf lb (fun x : Int => #[.int .i64 x]) (fun _ => True) (fun _ => True) 0 w (fun _ => False) (fun _ => True)) :
    Calls Tryz.prog 97 #[.slice none 0 0, .func (.func gf) #[] lb] w fun e w' => e = .returned (.slice none 0 0) ∧ Below w.heap.size w w' := by
  refine (callsIn_wide (n := 9)).1 ?_
  refine callsIn_of_wp_marks Tryz.func97 rfl trivial ?_ rfl
  simp only [Tryz.ntmps97, List.size_toArray, List.length_cons, List.length_nil, Nat.reduceAdd, Nat.reduceSub, Array.replicate_succ, Array.replicate_zero, List.push_toArray, List.append_toArray, List.nil_append, List.cons_append]
  gi_wp2
  have hB : Below w.heap.size w (w.alloc (.cells #[.slice none 0 0] 30)) := (Below.refl _ _).alloc (Nat.le_refl _) _
  have bx := Blk.new w 30 #[.slice none 0 0]
  refine wpIn_rangeFunc_sep rfl (by omega) (gf := gf) (lb := lb) rfl trivial eg hseq (fun _ _ => trivial) (fun _ h => h.elim) hB (fun _ => rfl)
    (fun _ C W => C w.heap.size ∧ Blk W w.heap.size 30 #[.slice none 0 0] ∧ Below w.heap.size w W) (fun _ _ _ _ => False) ?_ ?_ (fun k => k = w.heap.size) (fun k hk => by subst hk; simp) ⟨rfl, bx, hB⟩ ?_ ?_ ?_
  · rintro xs C A B ⟨h1, h2, h3⟩ hb hs
    exact ⟨h1, blk_same h2 (hs _ h1), h3.trans hb⟩
  · rintro c xs C A B h
    exact h.elim
  · intro l pre x C W _ _ _ _ hl
    exact absurd hl (by omega)
  · rintro D xs C W hD hCD _ ⟨h1, h2, h3⟩ hK
    obtain ⟨q0, q1, q2⟩ := h2.one
    have hDw : D ≠ w.heap.size := fun e => hCD (by rw [e]; exact h1)
    gi_wp2
    refine ⟨by simp, .inl ⟨_, _, rfl, run_takeDeferred hK, ?_⟩⟩
    have g1 := put_calm2 (W := W) (D := D) (.deferred none)
    refine ⟨_, ?_, rfl, h3.grown g1 h3.size (fun k e => by cases e; simp at hD; omega)⟩
    simp [results, Tryz.results97, go_sem]
  · intro D c pre C W _ _ _ h _
    exact h.elim
set_option maxHeartbeats 1000000 in
theorem collect0 (w : World) (gf : Nat) (lb : Array Value) (eg : ∀ args w, (callFunc gf args).run Tryz.prog w = .ok (.enter gf args) w) (hseq : SeqSep Fence.wide 8 Tryz.prog gf lb (fun x : Int => #[.int .i64 x]) (fun _ => True) (fun _ => True) 0 w (fun _ => False) (fun _ => True)) :
    Calls Tryz.prog 70 #[.func (.func gf) #[] lb] w fun e w' => e = .returned (.slice none 0 0) ∧ Below w.heap.size w w' := by
  have H := Lib.hid (appendSeq0 w gf lb eg hseq)
  clear hseq
  go_enter Tryz.func70, Tryz.ntmps70
  go_wp2_with fail
  refine H.out.mono ?_
  rintro e w1 ⟨rfl, hb⟩
  go_wp2
  go_ret
  exact ⟨rfl, hb⟩

/-- The marks that loops over functions have left. -/
def Mks (base : Nat) (W : World) (ds : List Deferred) : Prop := (∀ d ∈ ds, ∃ r, d.target = .collected r ∧ base ≤ r ∧ W.heap[r]? = some (.deferred (some []))) ∧ ds.Pairwise (fun a b => a.target ≠ b.target)
theorem Mks.nil (base : Nat) (W : World) : Mks base W [] := ⟨fun _ h => (List.not_mem_nil h).elim, .nil⟩
theorem Mks.below {base : Nat} {W W' : World} {ds : List Deferred} (h : Mks base W ds) (hb : Below W.heap.size W W') : Mks base W' ds :=
  ⟨fun d hd => by
    obtain ⟨r, h1, h2, h3⟩ := h.1 d hd
    exact ⟨r, h1, h2, (hb.block r (Array.getElem?_eq_some_iff.1 h3).1).trans h3⟩, h.2⟩
theorem Mks.cons {base D : Nat} {W : World} {ds : List Deferred} {args : Array Value} (h : Mks base W ds) (hK : W.heap[D]? = some (.deferred (some []))) (hD : base ≤ D) (hn : ∀ d ∈ ds, d.target ≠ .collected D) : Mks base W ({ target := .collected D, args := args } :: ds) :=
  ⟨fun d hd => by
    rcases List.mem_cons.1 hd with rfl | hd
    · exact ⟨D, rfl, hD, hK⟩
    · exact h.1 d hd, List.pairwise_cons.2 ⟨fun d hd e => hn d hd e.symm, h.2⟩⟩
theorem leaves_marks {F : Fence} {n : Nat} {P : Program} {fn : Func} {tmps : Array Value} {R : Ending → World → Prop} {base : Nat} : ∀ (ds : List Deferred) (W : World), Mks base W ds →
    (∀ W', Kept (fun k => base ≤ k ∧ ∃ d ∈ ds, d.target = .collected k) W W' → LeavesInM F n P fn tmps R [] .returning W') → LeavesInM F n P fn tmps R ds .returning W
  | [], W, _, h => h W (Kept.refl _ _)
  | d :: ds, W, hM, h => by
    obtain ⟨r, h1, h2, h3⟩ := hM.1 d (List.mem_cons_self ..)
    have hp := List.pairwise_cons.1 hM.2
    refine ⟨by simp, .inl ⟨r, _, h1, run_takeDeferred h3, leaves_marks (base := base) ds _ ⟨fun d' hd' => ?_, hp.2⟩ fun W' hk => h W' ?_⟩⟩
    · obtain ⟨r', k1, k2, k3⟩ := hM.1 d' (List.mem_cons_of_mem _ hd')
      refine ⟨r', k1, k2, (World.putObj_heap_other (fun e => ?_)).trans k3⟩
      exact hp.1 d' hd' (by rw [h1, k1, e])
    · refine Kept.trans (b := W.putObj r (.deferred none)) ?_ (hk.mono (fun k ⟨a, d', b, c⟩ => ⟨a, d', List.mem_cons_of_mem _ b, c⟩))
      exact putObj_kept ⟨h2, d, List.mem_cons_self .., h1⟩

set_option maxRecDepth 100000 in
set_option maxHeartbeats 2000000 in
theorem loopsC_any (g n : Nat) (T : List Tr) (w : World) (h : Tab w g n T) (hc : ClosedT T) (hn : n ≤ 4096) :
    Calls Tryz.prog 45 #[.pointer (some ⟨g, 0, none⟩)] w fun e w' => e = .returned (.slice none 0 0) ∧ Below w.heap.size w w' := by
  have H0 := Lib.hid (fun (W : World) (hW : Below w.heap.size w W) => vertices_any g n T W (h.below hW).toTabS)
  have HT := Lib.hid (fun (W : World) (hW : Below w.heap.size w W) => h.below hW)
  have HC := Lib.hid hc
  clear h hc
  have hmm := @run_makeMap Tryz.prog
  refine (callsIn_wide (n := 9)).1 ?_
  refine callsIn_of_wp_marks Tryz.func45 rfl trivial ?_ rfl
  simp only [Tryz.ntmps45, List.size_toArray, List.length_cons, List.length_nil, Nat.reduceAdd, Nat.reduceSub, Array.replicate_succ, Array.replicate_zero, List.push_toArray, List.append_toArray, List.nil_append, List.cons_append]
  have hB0 : Below w.heap.size w ((w.alloc (.map #[] 0)).alloc (.cells #[.map (some w.heap.size)] 123)) := ((Below.refl _ _).alloc (Nat.le_refl _) _).alloc (by simp) _
  have hm0 : MapP Tryz.prog 3 ((w.alloc (.map #[] 0)).alloc (.cells #[.map (some w.heap.size)] 123)) w.heap.size (fun _ => none) := (MapP.made w Tryz.prog 3).alloc _
  have b0 : Blk ((w.alloc (.map #[] 0)).alloc (.cells #[.map (some w.heap.size)] 123)) (w.heap.size + 1) 123 #[.map (some w.heap.size)] := by
    have := Blk.new (w.alloc (.map #[] 0)) 123 #[.map (some w.heap.size)]
    rwa [World.size_alloc] at this
  have HB0 := Lib.hid hB0
  have HM0 := Lib.hid hm0
  have HBb0 := Lib.hid b0
  clear hB0 hm0 b0
  gi_wp2_with fail
  refine ⟨trivial, (callsIn_wide.2 (H0.out _ HB0.out)).mono ?_⟩
  rintro e w1 ⟨rfl, rfl⟩
  gi_wp2
  refine wpIn_loop (fun a' W => ∃ (k : Nat) (u5 u6 u7 u14 u15 u16 u17 u18 u19 u20 u21 u22 u23 u24 u25 u29 u30 u31 u36 : Value) (ds : List Deferred), a' = { tmps := List.toArray (.pointer (some ⟨g, 0, none⟩) :: undef :: .slice none 0 0 :: .slice none 0 0 :: .pointer (some ⟨w.heap.size + 1, 0, none⟩) :: u5 :: u6 :: u7 :: .pointer (some ⟨g, 0, none⟩) :: .bool false :: .map (some w.heap.size) :: .pointer (some ⟨g, 0, none⟩) :: .int .i64 (n : Int) :: .int .i64 (k : Int) :: u14 :: u15 :: u16 :: u17 :: u18 :: u19 :: u20 :: u21 :: u22 :: u23 :: u24 :: u25 :: undef :: undef :: undef :: u29 :: u30 :: u31 :: undef :: undef :: undef :: undef :: u36 :: undef :: []), defers := ds } ∧
    k ≤ n ∧ Mks w.heap.size W ds ∧ Blk W (w.heap.size + 1) 123 #[.map (some w.heap.size)] ∧ MapP Tryz.prog 3 W w.heap.size (fun _ => none) ∧ Below w.heap.size w W)
    (fun a' _ => n - (intOf (a'.tmps.getD 13 undef)).toNat) ?_ ?_
  · exact ⟨0, _, _, _, _, _, _, _, _, _, _, _, _, _, _, _, _, _, _, _, _, rfl, Nat.zero_le _, Mks.nil _ _, HBb0.out, HM0.out, HB0.out⟩
  · rintro a' W ⟨k, u5, u6, u7, u14, u15, u16, u17, u18, u19, u20, u21, u22, u23, u24, u25, u29, u30, u31, u36, ds, rfl, hk, hM, hb, hmp, hB⟩
    clear HB0 HM0 HBb0
    obtain ⟨q0, q1, q2⟩ := hb.one
    have hsz := hB.size
    by_cases hlt : k < n
    · have k3 : (k : Int) < (n : Int) := by omega
      have hkeyv := keyOf_int_mk (P := Tryz.prog) (k := 3) (q := .i64) Tryz.underlying3 (wfV (x := (k : Int)) ⟨by omega, by omega⟩)
      have hlk := hmp.look (t := 123) (int_keyed Tryz.underlying3) Tryz.underlying123 (zero_bool _) hkeyv
      simp only [Option.getD_none] at hlk
      have HM := Lib.hid hM
      have HBb := Lib.hid hb
      have HMp := Lib.hid hmp
      have HB := Lib.hid hB
      clear hM hb hmp hB
      gi_wp2_with fail
      refine ⟨trivial, (callsIn_wide.2 (callsIn_wide.1 (bwalk_any Fence.wide 8 trivial rfl g (k : Int) W))).mono ?_⟩
      rintro e w2 ⟨rfl, rfl⟩
      have hB2 : Below W.heap.size W ((W.alloc (.cells #[.pointer (some ⟨g, 0, none⟩)] 26)).alloc (.cells #[.int .i64 (k : Int)] 3)) := ((Below.refl _ _).alloc (Nat.le_refl _) _).alloc (by simp) _
      have bt : Blk ((W.alloc (.cells #[.pointer (some ⟨g, 0, none⟩)] 26)).alloc (.cells #[.int .i64 (k : Int)] 3)) W.heap.size 26 #[.pointer (some ⟨g, 0, none⟩)] := (Blk.new _ _ _).alloc _
      have bv : Blk ((W.alloc (.cells #[.pointer (some ⟨g, 0, none⟩)] 26)).alloc (.cells #[.int .i64 (k : Int)] 3)) (W.heap.size + 1) 3 #[.int .i64 (k : Int)] := by
        have := Blk.new (W.alloc (.cells #[.pointer (some ⟨g, 0, none⟩)] 26)) 3 #[.int .i64 (k : Int)]
        rwa [World.size_alloc] at this
      generalize (W.alloc (.cells #[.pointer (some ⟨g, 0, none⟩)] 26)).alloc (.cells #[.int .i64 (k : Int)] 3) = W2 at *
      have hBw2 := HB.out.trans (hB2.mono hsz)
      gi_wp2_with fail
      refine ⟨trivial, (callsIn_wide.2 (collect0 W2 98 _ (enters_of Tryz.func98 (by kernel_rfl) rfl) (bwalk_sep0 (v := k) (by omega) HC.out (HT.out W2 hBw2) (bt.cell 0) (bv.cell 0) bt.lt bv.lt))).mono ?_⟩
      rintro e w3 ⟨rfl, hb3⟩
      have hB3 := hB2.trans (hb3.mono hB2.size)
      clear bt bv hb3 hB2 hBw2
      have hBw3 := HB.out.trans (hB3.mono hsz)
      have h3s := hB3.size
      gi_wp2_with fail
      refine ⟨trivial, (callsIn_wide.2 (callsIn_wide.1 (bwalk_any Fence.wide 8 trivial rfl g (k : Int) w3))).mono ?_⟩
      rintro e w4 ⟨rfl, rfl⟩
      have hB4 : Below w3.heap.size w3 ((w3.alloc (.cells #[.pointer (some ⟨g, 0, none⟩)] 26)).alloc (.cells #[.int .i64 (k : Int)] 3)) := ((Below.refl _ _).alloc (Nat.le_refl _) _).alloc (by simp) _
      have bt : Blk ((w3.alloc (.cells #[.pointer (some ⟨g, 0, none⟩)] 26)).alloc (.cells #[.int .i64 (k : Int)] 3)) w3.heap.size 26 #[.pointer (some ⟨g, 0, none⟩)] := (Blk.new _ _ _).alloc _
      have bv : Blk ((w3.alloc (.cells #[.pointer (some ⟨g, 0, none⟩)] 26)).alloc (.cells #[.int .i64 (k : Int)] 3)) (w3.heap.size + 1) 3 #[.int .i64 (k : Int)] := by
        have := Blk.new (w3.alloc (.cells #[.pointer (some ⟨g, 0, none⟩)] 26)) 3 #[.int .i64 (k : Int)]
        rwa [World.size_alloc] at this
      generalize (w3.alloc (.cells #[.pointer (some ⟨g, 0, none⟩)] 26)).alloc (.cells #[.int .i64 (k : Int)] 3) = W4 at *
      have hBw4 := hBw3.trans (hB4.mono hBw3.size)
      have hsep := bwalk_sep0 (n := 8) (v := k) (by omega) HC.out (HT.out W4 hBw4) (bt.cell 0) (bv.cell 0) bt.lt bv.lt
      have hBk4 := hB3.trans (hB4.mono h3s)
      have HBk := Lib.hid hBk4
      have HSep := Lib.hid hsep
      have HBw := Lib.hid hBw4
      have h4s := hBk4.size
      clear bt bv hB3 hBw3 hB4 hBw4 hsep hBk4
      gi_wp2
      refine wpIn_rangeFunc_sep rfl (by omega) (gf := 98) (lb := #[.pointer (some ⟨w3.heap.size, 0, none⟩), .pointer (some ⟨w3.heap.size + 1, 0, none⟩)]) rfl trivial (enters_of Tryz.func98 (by kernel_rfl) rfl) HSep.out (fun _ _ => trivial) (fun _ h => h.elim) (Below.refl _ _) (fun _ => rfl)
        (fun _ _ W' => Below W4.heap.size W4 W') (fun _ _ _ _ => False) ?_ ?_ (fun _ => False) (fun _ h => h.elim) (Below.refl _ _) ?_ ?_ ?_
      · rintro xs C A B h hb hs
        exact h.trans hb
      · rintro c xs C A B h
        exact h.elim
      · intro l pre x C W _ _ _ _ hl
        exact absurd hl (by omega)
      · rintro D xs C W5 hD _ _ h5 hK
        have hB5 := HBk.out.trans (h5.mono h4s)
        gi_wp2
        refine ⟨⟨k + 1, _, _, _, _, _, _, _, _, _, _, _, _, _, _, _, _, _, _, _, _, by go_num, by omega, (HM.out.below hB5).cons hK (by omega) ?_, HBb.out.below hB5 HBb.out.lt, HMp.out.below hB5 (by omega), HB.out.trans (hB5.mono hsz)⟩, ?_⟩
        · intro d hd e
          obtain ⟨r, e1, e2, e3⟩ := HM.out.1 d hd
          rw [e] at e1
          have := (Array.getElem?_eq_some_iff.1 e3).1
          injection e1 with e1
          omega
        · simp [intOf]
          omega
      · intro D c pre C W' _ _ _ h _
        exact h.elim
    · obtain rfl : k = n := by omega
      gi_wp2
      refine leaves_marks (base := w.heap.size) ds _ hM fun W' hk => ?_
      refine ⟨_, ?_, rfl, hB.trans (hk.below (fun k h => h.1) hsz)⟩
      simp [results, Tryz.results45, go_sem]
end Go.Proofs.YtpnkhgjjlionnaaGreat
namespace Go.Proofs.YtpnkhgjjlionnaaGreat
open Go.RowKit Go.Maps

theorem loopsPost_closed {n : Nat} {T : List Tr} {w : World} {g : Nat} (h : Tab w g n T) (hc : ClosedT T) (hn : n ≤ 4096) : Calls Tryz.prog 45 #[.pointer (some ⟨g, 0, none⟩)] w (LoopsPost n T w) := by
  refine (loopsC_any g n T w h hc hn).mono ?_
  rintro e w' ⟨rfl, hb⟩
  exact ⟨_, [], [], rfl, World.ownsRow_nil _ _ _ _, Nat.zero_le _, fun i u r hu => by simp at hu, ⟨fun _ => hc, fun _ => rfl⟩, hb⟩
/-- The decision: one part, no border, Euler number 1, 2 or 3. -/
def ChkOk (n : Nat) (T : List Tr) : Prop := ∃ out, Shl T out ∧ cntL out = 1 ∧ ClosedT T ∧ (2 - 0 - ((n : Int) - 3 * (T.length : Int) / 2 + T.length)).tdiv 2 = 0
open Classical in
set_option maxRecDepth 100000 in
set_option maxHeartbeats 2000000 in
theorem check_walk (g n : Nat) (T : List Tr) (w : World) (r : Int) (hT : Tab w g n T) (hS : Surf n T) (hr : -1000000 ≤ r ∧ r ≤ 1000000) (hL : ∀ W, Below w.heap.size w W → Calls Tryz.prog 45 #[.pointer (some ⟨g, 0, none⟩)] W (LoopsPost n T W)) :
    Calls Tryz.prog 34 #[.pointer (some ⟨g, 0, none⟩), .int .i64 r] w fun e w' => e = .returned (.int .i64 (if r < 0 ∨ 3 * (T.length : Int) ≤ r then 2 else if ChkOk n T then 0 else 12)) ∧ Below w.heap.size w w' := by
  have H0 := Lib.hid (triangles_any g n T w hT.toTabS)
  have HG := Lib.hid (genus_any g n T w hT hS hL)
  have hl := hT.len
  obtain ⟨F, hF⟩ : ∃ F, T.length = F := ⟨_, rfl⟩
  rw [hF] at hl H0 ⊢
  have HF := Lib.hid hF
  have HS := Lib.hid hS
  clear hT hS hL hF
  go_enter Tryz.func34, Tryz.ntmps34
  by_cases h0 : r < 0
  · rw [if_pos (.inl h0)]
    go_wp2
    go_ret
    exact ⟨rfl, Below.refl _ _⟩
  · by_cases h1 : 3 * (F : Int) ≤ r
    · rw [if_pos (.inr h1)]
      go_wp2_with fail
      refine H0.out.mono ?_
      rintro e w0 ⟨rfl, rfl⟩
      go_wp2
      go_ret
      exact ⟨rfl, Below.refl _ _⟩
    · rw [if_neg (by omega)]
      obtain ⟨A, hA⟩ : ∃ A : Int, A = if ChkOk n T then 0 else 12 := ⟨_, rfl⟩
      rw [← hA]
      go_wp2_with fail
      refine H0.out.mono ?_
      rintro e w0 ⟨rfl, rfl⟩
      go_wp2_with fail
      refine HG.out.mono ?_
      rintro e w1 ⟨v, out, m, cs, rfl, hSh, hm, hr1, h6, hb⟩
      obtain ⟨av, cv, rfl⟩ := ownsRow_slice hr1
      have HB := Lib.hid hb
      clear HG H0 hb
      by_cases hm1 : m = 1
      · subst hm1
        obtain ⟨E, b, rfl, hb0, hb1, hE⟩ := h6 rfl
        obtain ⟨gO, cap, e0, hg1, hg2⟩ := hr1.form (by omega)
        cases e0
        have c3 : w1.cell? ⟨gO, 3, none⟩ = some (.int .i64 b) := by rw [hr1.cellAt 3 (by omega)]; rfl
        have c5 : w1.cell? ⟨gO, 5, none⟩ = some (.int .i64 ((2 - b - ((n : Int) - E + T.length)).tdiv 2)) := by rw [hr1.cellAt 5 (by omega)]; rfl
        generalize hz : (2 - b - ((n : Int) - E + T.length)).tdiv 2 = z at *
        have hok : ChkOk n T ↔ b = 0 ∧ z = 0 := by
          constructor
          · rintro ⟨out', h1, h2, h3, h4⟩
            have hb' := hb1.2 h3
            refine ⟨hb', ?_⟩
            rw [← hz, hb', hE h3]
            exact h4
          · rintro ⟨h1, h2⟩
            have hc := hb1.1 h1
            refine ⟨out, hSh, by rw [hm]; rfl, hc, ?_⟩
            rw [h1, hE hc, h2] at hz
            exact hz
        clear hr1 h6 hb1 hE hz hSh hm
        by_cases hb2 : b = 0
        · by_cases hz2 : z = 0
          · rw [if_pos (hok.2 ⟨hb2, hz2⟩)] at hA
            subst hb2 hz2 hA
            clear hok
            go_wp2
            go_ret
            exact ⟨rfl, HB.out⟩
          · rw [if_neg (fun h => hz2 (hok.1 h).2)] at hA
            subst hb2 hA
            have nz : (z == 0) = false := by simpa using hz2
            clear hok
            go_wp2
            go_ret
            exact ⟨rfl, HB.out⟩
        · rw [if_neg (fun h => hb2 (hok.1 h).1)] at hA
          subst hA
          have nz : (b == 0) = false := by simpa using hb2
          clear hok
          go_wp2
          go_ret
          exact ⟨rfl, HB.out⟩
      · have hno : ¬ ChkOk n T := by
          rintro ⟨out', h1, h2, h3, h4⟩
          have := hSh.one h1
          subst this
          omega
        rw [if_neg hno] at hA
        subst hA
        have nm : ((m : Int) == 1) = false := by simp; omega
        clear hr1 h6 hSh hm hno
        go_wp2
        go_ret
        exact ⟨rfl, HB.out⟩
end Go.Proofs.YtpnkhgjjlionnaaGreat
