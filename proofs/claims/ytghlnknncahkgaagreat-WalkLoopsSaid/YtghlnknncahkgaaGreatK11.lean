/-
  Texts joined by program: StpS StpE StpF Stp BegW Ste Reg.
-/
import Derived.Test.YtghlnknncahkgaaGreatK10
import Derived.Test.YtghlnknncahkgaaGreatShelf
import Derived.Deep.AppendLies
import Derived.Deep.RegionLaw
import Derived.Deep.DeepCutAuto
import Derived.Test.YtghlnknncahkgaaGreatK8
import Derived.Sort.LoopGhostIn
import Derived.OrdersIn
import Derived.TacticsIn
import Derived.Test.YtghlnknncahkgaaGreatK1
/-
  (*way).step, at the letter S, by walking its text.
-/
namespace Go.Proofs.YtghlnknncahkgaaGreat
open Go.RowKit Go.Maps
/-- Behind the first half. -/
def SMid (w : World) (base g b n q1 : Nat) (vC vL vW0 : Value) (vs0 : List Value) (s : WSt) (st : Array Value) (W : World) : Prop := ∃ vW vs, WayAt W base g b vC vL vW vs n s ∧ Blk W q1 55 st ∧ Blk W w.heap.size 55 #[.int .u8 0, .int .i64 0, .int .i64 0, .int .i64 0] ∧ Kind w W b vC vL vW0 vs0 vL vW vs
theorem infoInts9 : (Tryz.prog.info? 28).map (fun i => (i.zero, i.size, i.bytes)) = some (some (.slice none 0 0), 1, 24) := by kernel_rfl
theorem cells_int {l : List Int} : ∀ u ∈ l.map (Value.int .i64), u.oneCell' = true := by
  intro u hu
  obtain ⟨z, _, rfl⟩ := List.mem_map.1 hu
  rfl

set_option maxRecDepth 100000 in
set_option maxHeartbeats 2000000 in
theorem stepS_any {w : World} {base g b n : Nat} {vC vL vW : Value} {vs : List Value} {s : WSt} {T : List Tr} (hT : Tab w g n T) (h : WayAt w base g b vC vL vW vs n s) {x y : Int} {r : List Int} (hl : s.loop = x :: y :: r)
    (hx : -1 ≤ x ∧ x ≤ 10000) (hy : -1 ≤ y ∧ y ≤ 10000) (hc : 0 ≤ facI T (x, y)) (hv : vertI T (facI T (x, y)) ∈ s.come) (hlen : r.length ≤ 50000) (hwl : s.wait.length ≤ 50000) (i : Nat) (hi2 : 2 < i) (hi3 : i < r.length + 1) (hi : Lib.idxOf s.loop (vertI T (facI T (x, y))) = i) :
    Calls Tryz.prog 60 #[.pointer (some ⟨b, 0, none⟩)] w fun e w' => e = .returned (.tuple #[.agg #[.int .u8 83, .int .i64 (facI T (x, y)), .int .i64 s.wait.length, .int .i64 (r.length + 2 : Nat)], .bool true]) ∧
      (∃ vL' vW' vs', WayAt w' base g b vC vL' vW' vs' n ⟨s.come, x :: (x :: y :: r).drop i, s.wait ++ [vertI T (facI T (x, y)) :: (y :: r).take (i - 1)]⟩ ∧ Kind w w' b vC vL vW vs vL' vW' vs') := by
  have hL := h.L
  rw [hl] at hL
  obtain ⟨m, hm⟩ : ∃ m, (x :: y :: r).length = m := ⟨_, rfl⟩
  rw [hm] at hL
  have hm2 : r.length + 2 = m := hm
  obtain ⟨gl, cap, rfl, hgl, hcap, hcap2⟩ := own_form hL (by omega)
  obtain ⟨aW, cW, rfl⟩ := ownsRow_slice h.W
  obtain ⟨lb, c0, c1, c2, c3, f2, f3⟩ := four h.blk
  have hs0 : (intsV (x :: y :: r))[0]? = some (.int .i64 x) := rfl
  have l0 : w.cell? ⟨gl, 0, none⟩ = some (.int .i64 x) := by rw [hL.cellAt 0 (by omega)]; exact hs0
  have l1 : w.cell? ⟨gl, 1, none⟩ = some (.int .i64 y) := by rw [hL.cellAt 1 (by omega)]; rfl
  have hnil := fun (W : World) => Lib.run_eql_slice_nil (P := Tryz.prog) W 28 3 (some ⟨gl, 0, none⟩) m cap 0 0 Tryz.underlying28
  obtain ⟨c, hce⟩ : ∃ c : Nat, facI T (x, y) = (c : Int) := ⟨(facI T (x, y)).toNat, by omega⟩
  have hcl := (facI_some hce).1
  have hvb := vertN_in hT.inr hcl
  obtain ⟨v, hve⟩ : ∃ v : Nat, vertI T (facI T (x, y)) = (v : Int) := ⟨(vertN T c).toNat, by rw [hce, vertI_nat hcl]; omega⟩
  have hvn : v < n := by rw [hce, vertI_nat hcl] at hve; omega
  obtain ⟨bs, hC, hbs⟩ := h.C
  obtain ⟨gC, capC, rfl, hgC, hcC, -⟩ := own_form hC (by omega)
  have hbv : bs[v]? = some true := (hbs.2 v hvn).2 (by rw [← hve]; exact hv)
  have cv : w.cell? ⟨gC, v, none⟩ = some (.bool true) := by
    rw [hC.cellAt v (by omega)]
    simp [bools, hbv]
  have HF := Lib.hid (fun (W : World) (hW : Below w.heap.size w W) => facing_any g n x y T W (hT.below hW) hx hy)
  have HV := Lib.hid (fun (W : World) (hW : Below w.heap.size w W) => (show Calls Tryz.prog 36 #[.pointer (some ⟨g, 0, none⟩), .int .i64 (c : Int)] W fun e w' => e = .returned (.int .i64 (v : Int)) ∧ W = w' from by
    have := vertex_any g n (facI T (x, y)) T W (hT.below hW).toTabS
    rw [hve, hce] at this
    exact this))
  have HI := Lib.hid (fun (W : World) (hW : WayAt W base g b (.slice (some ⟨gC, 0, none⟩) n capC) (.slice (some ⟨gl, 0, none⟩) m cap) (.slice aW s.wait.length cW) vs n s) => (show Calls Tryz.prog 87 #[.slice (some ⟨gl, 0, none⟩) m cap, .int .i64 (v : Int)] W fun e w' => e = .returned (.int .i64 (Lib.idxOf s.loop (v : Int))) ∧ w' = W from by
    have h2 := hW.L
    have h3 : s.loop.length = m := by rw [hl]; exact hm
    rw [h3] at h2
    have := Tryz.slices_Index_int gl 0 m cap s.loop (v : Int) W (Nat.le_of_eq h3.symm) (by omega) (fun j hj => by
      rw [Nat.zero_add, h2.cellAt j (by rw [Nat.mul_one, ← h3]; exact hj)]
      simp [intsV, List.getD, List.getElem?_eq_getElem hj])
    rw [show s.loop.take m = s.loop from List.take_of_length_le (by omega)] at this
    exact this))
  rw [hve] at hv hi ⊢
  rw [hce] at HF ⊢
  rw [hm2]
  obtain ⟨wl, hwe⟩ : ∃ wl, s.wait.length = wl := ⟨_, rfl⟩
  rw [hwe] at hwl c3 h HI ⊢
  have H := Lib.hid h
  have HL := Lib.hid hl
  have HM := Lib.hid hm
  have HWE := Lib.hid hwe
  have hm3 : m ≤ 50002 := by omega
  have hm4 : 2 ≤ m := by omega
  have HIX := Lib.hid hi
  have n3 : ((m : Int) == 3) = false := by simp; omega
  have n5 : ((i : Int) == (m : Int) - 1) = false := by simp; omega
  have n5b : ((i : Int) == 2) = false := by simp; omega
  have n4 : 3 < m := by omega
  have n6 : (i : Int) < (cap : Int) := by omega
  have n7 : 0 < m := by omega
  have n8 : i < cap := by omega
  have n9 : (i : Int) ≤ (m : Int) := by omega
  have n10 : ¬ cap = i := by omega
  have n11 : (1 : Int) ≤ (i : Int) := by omega
  have n12 : ¬ cap = 1 := by omega
  have n13 : (i : Int) ≤ (cap : Int) := by omega
  have n14 : (0 : Int) ≤ (i : Int) := by omega
  have him : i < m := by omega
  have HLM := Lib.hid (show s.loop.length = m from by rw [hl]; exact hm)
  obtain ⟨i2, hj', hz0, hz1, hz2⟩ := info_parts infoInt9
  obtain ⟨i3, hj3, hy0, hy1, hy2⟩ := info_parts infoInts9
  have f3 : wl + 1 ≤ maxLen := by unfold maxLen; omega
  have f4 : (wl + 1) * 24 ≤ 140737488355328 := by omega
  clear hi hi3
  clear h hT hl hL hs0 hm hm2 hlen hce hcl hvb hve hC hbs hbv hv hc hwe
  go_enter Tryz.func60, Tryz.ntmps60
  go_wp2
  have hA := H.out.alloc (.cells #[.int .u8 0, .int .i64 0, .int .i64 0, .int .i64 0] 55)
  have hB0 : Below w.heap.size w (w.alloc (.cells #[.int .u8 0, .int .i64 0, .int .i64 0, .int .i64 0] 55)) := (Below.refl _ _).alloc (Nat.le_refl _) _
  have b0 := Blk.new w 55 #[.int .u8 0, .int .i64 0, .int .i64 0, .int .i64 0]
  have hszA : w.heap.size < (w.alloc (.cells #[.int .u8 0, .int .i64 0, .int .i64 0, .int .i64 0] 55)).heap.size := by simp
  generalize w.alloc (.cells #[.int .u8 0, .int .i64 0, .int .i64 0, .int .i64 0] 55) = wA at *
  obtain ⟨lb', c0', c1', c2', c3', -⟩ := four hA.blk
  have l0' := (hB0.cell (p := ⟨gl, 0, none⟩) hgl).trans l0
  have l1' := (hB0.cell (p := ⟨gl, 1, none⟩) hgl).trans l1
  have HA := Lib.hid hA
  have HB0 := Lib.hid hB0
  have Hb0 := Lib.hid b0
  clear hA hB0 b0
  have i0 : (0 : Int) < (m : Int) := by omega
  have i1 : (1 : Int) < (m : Int) := by omega
  have d0 := cell_regrown c0'
  have d2 := cell_regrown c2'
  have q0 := cell_regrown l0'
  have q1 := cell_regrown l1'
  refine wp_region_quiet_below (by kernel_rfl) (by kernel_rfl) ?_
  repeat (go_big_quiet_step ((go_at_call 62; exact Calls.regrown_of (HF.out _ (HB0.out.trans ((below_regrown wA _ _).mono HB0.out.size))))))
  refine wpQuiet_nil ?_
  intro _ hw'
  obtain ⟨⟨dq, osq⟩, hw''⟩ := hw'
  subst hw''
  have hB1 := below_regrown wA dq osq
  generalize Sort.grow (redrawn wA dq) osq = w1 at *
  have hA1 := HA.out.below hB1
  obtain ⟨lb1, x0, x1, x2, x3, y2, y3⟩ := four hA1.blk
  have HA1 := Lib.hid hA1
  have hB2 := HB0.out.trans (hB1.mono HB0.out.size)
  have cv1 := (hB2.cell (p := ⟨gC, v, none⟩) hgC).trans cv
  have lx1 := (hB2.cell (p := ⟨gl, 0, none⟩) hgl).trans l0
  have hsz1 := hB1.size
  have hgC1 : gC < w1.heap.size := by omega
  have hgl1 : gl < w1.heap.size := by omega
  have HB1 := Lib.hid hB1
  have HB2 := Lib.hid hB2
  have HA2 := Lib.hid (HA1.out.alloc (.cells #[.int .u8 0, .int .i64 (c : Int), .int .i64 (wl : Int), .int .i64 (m : Int)] 55))
  have hbbN : base ≤ w.heap.size := H.out.ble
  have k1 : b ≠ w.heap.size := fun e => by have := lb; omega
  have k2 : b ≠ w1.heap.size := by omega
  have k3 : w.heap.size ≠ w1.heap.size := by omega
  clear hA1 hB1 hB2 d0 d2 q0 q1 c0' c2' l0' l1' c1' c3'
  have A2 := HA1.out.alloc (.cells #[.int .u8 83, .int .i64 (c : Int), .int .i64 (wl : Int), .int .i64 (m : Int)] 55)
  have bS := Blk.new w1 55 #[.int .u8 83, .int .i64 (c : Int), .int .i64 (wl : Int), .int .i64 (m : Int)]
  have bR := (Hb0.out.below HB1.out hszA).alloc (.cells #[.int .u8 83, .int .i64 (c : Int), .int .i64 (wl : Int), .int .i64 (m : Int)] 55)
  have hBS : Kept (OwnA b (.slice (some ⟨gC, 0, none⟩) n capC) (.slice (some ⟨gl, 0, none⟩) m cap) (.slice aW wl cW) vs) w (w1.alloc (.cells #[.int .u8 83, .int .i64 (c : Int), .int .i64 (wl : Int), .int .i64 (m : Int)] 55)) := (Kept.of HB2.out).alloc _
  have hszS : w1.heap.size < (w1.alloc (.cells #[.int .u8 83, .int .i64 (c : Int), .int .i64 (wl : Int), .int .i64 (m : Int)] 55)).heap.size := by simp
  have HA2S := Lib.hid A2
  have HbS := Lib.hid bS
  have HbR := Lib.hid bR
  have HBS := Lib.hid hBS
  clear A2 bS bR hBS
  go_wp2_with (first | (go_at_call 36; refine (HV.out _ HB2.out).mono ?_; rintro e w2 ⟨rfl, rfl⟩) | (go_at_call 87; refine (HI.out _ HA2.out).mono ?_; rintro e w2 ⟨rfl, rfl⟩; rw [HIX.out]))
  generalize w1.alloc (.cells #[.int .u8 83, .int .i64 (c : Int), .int .i64 (wl : Int), .int .i64 (m : Int)] 55) = wS at *
  obtain ⟨lbS, e0, e1, e2, e3, e4, e5⟩ := four HA2S.out.blk
  have A3 := (HA2S.out.alloc (.cells #[.int .i64 (v : Int)] 3)).drew
  have bT : Blk ((wS.alloc (.cells #[.int .i64 (v : Int)] 3)).drew) wS.heap.size 3 #[.int .i64 (v : Int)] := (Blk.new _ _ _).drew
  have hbS := HA2S.out.ble
  have HT1 := Lib.hid (own_one (base := base) bT hbS)
  have HP := Lib.hid (A3.part HLM.out 1 (i - 1) (by omega))
  have HNl := Lib.hid (show (((s.loop.drop 1).take (i - 1)).map (Value.int .i64)).length = (i - 1) * 1 from by have := HLM.out; simp; omega)
  have c6 : 1 + (i - 1) ≤ maxLen := by unfold maxLen; omega
  have c7 : (1 + (i - 1)) * 8 ≤ 140737488355328 := by omega
  have hB03 : Below wS.heap.size wS ((wS.alloc (.cells #[.int .i64 (v : Int)] 3)).drew) := ((Below.refl _ _).alloc (Nat.le_refl _) _).drew
  have HB03 := Lib.hid hB03
  clear A3 bT hB03
  go_cut [] (fun W => SMid w base g b n w1.heap.size (.slice (some ⟨gC, 0, none⟩) n capC) (.slice (some ⟨gl, 0, none⟩) m cap) (.slice aW wl cW) vs ⟨s.come, s.loop, s.wait ++ [(v : Int) :: (y :: r).take (i - 1)]⟩ #[.int .u8 83, .int .i64 (c : Int), .int .i64 (wl : Int), .int .i64 (m : Int)] W)
  case first =>
    go_region_law (first
      | (refine step_append_lies _ rfl (.tmp 92) (.tmp 98) 28 rfl base 3 i2 _ 1 8 Tryz.underlying28 hj' hz0 hz1 hz2 rfl (by decide) (.slice (some ⟨wS.heap.size, 0, none⟩) 1 1) 1 [.int .i64 (v : Int)] rfl HT1.out ⟨gl, 1, none⟩ (i - 1) (cap - 1) (((s.loop.drop 1).take (i - 1)).map (Value.int .i64)) rfl HNl.out HP.out cells_int (by omega) c6 c7 (by simp; omega) (wS.heap.size + 1) (by simp) ?_; intro g4 cap4 w4 hr4 hg4 hat4 hlt4; have hb4 := HB03.out.trans (below_of_grown hg4 (by simp) (fun j e => Nat.le_of_eq (Option.some.inj e))); have h4w := HA2S.out.below hb4; obtain ⟨lb4, z0, z1, z2, z3, u2, u3⟩ := four h4w.blk; have HB4 := Lib.hid hb4; have HR4 := Lib.hid hr4; have HAT4 := Lib.hid hat4; have H4W := Lib.hid h4w; have H4A := Lib.hid (h4w.W.alloc (.cells #[.slice (some ⟨g4, 0, none⟩) (1 + (i - 1)) cap4] 28)); have hbl4 := h4w.ble; clear hg4 hr4 hat4 hb4 h4w)
      | (refine step_append_lies _ rfl (.tmp 90) (.tmp 100) 98 rfl base 28 i3 _ 1 24 Tryz.underlying98 hj3 hy0 hy1 hy2 rfl (by decide) (.slice aW wl cW) wl vs rfl (by have h1 := H4A.out; rw [HWE.out] at h1; exact h1) ⟨w4.heap.size, 0, none⟩ 1 1 [.slice (some ⟨g4, 0, none⟩) (1 + (i - 1)) cap4] rfl rfl (World.news_of_block (heap_alloc_new _ _)) (by simp [Value.oneCell']) (by decide) f3 f4 (by simp; omega) (w4.heap.size + 1) (by simp) ?_; intro g5 cap5 w5 hr5 hg5 hat5 hlt5; have b5 := (H4W.out.blk.alloc (.cells #[.slice (some ⟨g4, 0, none⟩) (1 + (i - 1)) cap4] 28)).grown hg5 (fun e => own_blk_ne H4W.out.W H4W.out.blk (by decide) e.symm); obtain ⟨lb5, y0, y1, y2, y3, v2, v3⟩ := four b5; have HR5 := Lib.hid hr5; have HG5 := Lib.hid hg5; have HAT5 := Lib.hid hat5; clear b5 hr5 hg5 hat5))
    all_goals
      go_wp2_with fail
      go_meet
      have e6 : 1 + (i - 1) = ((v : Int) :: (y :: r).take (i - 1)).length := by have := HLM.out; rw [HL.out] at this; simp at this ⊢; omega
      have e7 : [Value.int .i64 (v : Int)] ++ ((s.loop.drop 1).take (i - 1)).map (Value.int .i64) = intsV ((v : Int) :: (y :: r).take (i - 1)) := by
        rw [HL.out]
        simp [intsV]
      have hr4 := HR4.out
      rw [e6, e7] at hr4
      have hr5 := HR5.out
      have hg5 := HG5.out
      rw [e6] at hr5 hg5
      have hB5 := HA2S.out.rewait (v5 := .slice (some ⟨g5, 0, none⟩) (wl + 1) cap5) HB4.out hr4 rfl (by
        rcases HAT4.out with e | e
        · exact Nat.le_of_eq (Option.some.inj e)
        · exact (by omega : wS.heap.size ≤ g4)) hg5 (by rw [HWE.out]; exact hr5)
      rw [← e6] at hB5
      have s4 := (HbS.out.below HB4.out HbS.out.lt).alloc (.cells #[.slice (some ⟨g4, 0, none⟩) (1 + (i - 1)) cap4] 28)
      have s5 := (s4.grown HG5.out (fun e => own_blk_ne H4A.out s4 (by decide) e.symm)).far (p := ⟨b, 3, none⟩) (by simp only; omega) (.slice (some ⟨g5, 0, none⟩) (wl + 1) cap5)
      have t4 := (HbR.out.below HB4.out HbR.out.lt).alloc (.cells #[.slice (some ⟨g4, 0, none⟩) (1 + (i - 1)) cap4] 28)
      have t5 := (t4.grown HG5.out (fun e => own_blk_ne H4A.out t4 (by decide) e.symm)).far (p := ⟨b, 3, none⟩) (by simp only; omega) (.slice (some ⟨g5, 0, none⟩) (wl + 1) cap5)
      have hBw := (((HBS.out.trans (Kept.of HB4.out)).alloc (.cells #[.slice (some ⟨g4, 0, none⟩) (1 + (i - 1)) cap4] 28)).grown HG5.out (fun j e => .inl (.inr (.inr (.inr (.inl e)))))).setCell (p := ⟨b, 3, none⟩) (.inl (.inl rfl)) (.slice (some ⟨g5, 0, none⟩) (wl + 1) cap5)
      have hwS := HBS.out.size
      have hw4 := HB4.out.size
      refine ⟨_, _, hB5, s5, t5, hBw, fun k hk => ?_⟩
      rcases hk with e | e | e | e | ⟨u, hu, e⟩
      · exact .inl (.inl e)
      · exact .inl (.inr (.inl e))
      · exact .inl (.inr (.inr (.inl e)))
      · rcases HAT5.out with e2 | e2
        · exact .inl (.inr (.inr (.inr (.inl (e2.trans e)))))
        · have e3 : g5 = w4.heap.size + 1 := e2
          have e4 : g5 = k := Option.some.inj e
          exact .inr (by omega)
      · rcases List.mem_append.1 hu with hu | hu
        · exact .inl (.inr (.inr (.inr (.inr ⟨u, hu, e⟩))))
        · rw [List.mem_singleton.1 hu] at e
          have e4 : g4 = k := Option.some.inj e
          rcases HAT4.out with e2 | e2
          · have e3 : wS.heap.size = g4 := Option.some.inj e2
            exact .inr (by omega)
          · have e3 : g4 = wS.heap.size + 1 := e2
            exact .inr (by omega)
  case rest =>
    obtain ⟨vW5, vs5, hB5, s5, t5, hBw⟩ := hcut
    obtain ⟨aW5, cW5, rfl⟩ := ownsRow_slice hB5.W
    clear x0 x1 x2 x3 e0 e1 e2 e3 e4 e5
    rename World => wB
    obtain ⟨lbB, e0, e1, e2, e3, e4, e5⟩ := four hB5.blk
    obtain ⟨lsB, s0, s1, s2, s3, -⟩ := four s5
    obtain ⟨ltB, t0, t1, t2, t3, r2, r3⟩ := four t5
    have r0 := t5.frozen 0
    have r1 := t5.frozen 1
    have lx : wB.cell? ⟨gl, 0, none⟩ = some (.int .i64 x) := by
      have h2 := hB5.L
      simp only at h2
      rw [HLM.out, HL.out] at h2
      rw [h2.cellAt 0 (by omega)]
      rfl
    have lgl : gl < wB.heap.size := (hB5.L.lt gl rfl).2
    have A3 := (hB5.alloc (.cells #[.int .i64 x] 3)).drew
    have bT : Blk ((wB.alloc (.cells #[.int .i64 x] 3)).drew) wB.heap.size 3 #[.int .i64 x] := (Blk.new _ _ _).drew
    have hbB := hB5.ble
    have HT6 := Lib.hid (own_one (base := base) bT hbB)
    have HP6 := Lib.hid (A3.part HLM.out i (m - i) (by omega))
    have HN6 := Lib.hid (show (((s.loop.drop i).take (m - i)).map (Value.int .i64)).length = (m - i) * 1 from by have := HLM.out; simp; omega)
    have c8 : 1 + (m - i) ≤ maxLen := by unfold maxLen; omega
    have c9 : (1 + (m - i)) * 8 ≤ 140737488355328 := by omega
    have nb6 : some b ≠ some wB.heap.size := by simp; omega
    have ns6 : some w1.heap.size ≠ some wB.heap.size := by simp; omega
    have nt6 : some w.heap.size ≠ some wB.heap.size := by simp; omega
    have HA3 := Lib.hid A3
    have HB5 := Lib.hid hB5
    have HS5 := Lib.hid s5
    have HT5 := Lib.hid t5
    have HBW := Lib.hid hBw
    clear A3 bT hB5 s5 t5 hBw
    go_wp2
    go_region_law (first | (refine step_append_lies _ rfl (.tmp 111) (.tmp 117) 28 rfl base 3 i2 _ 1 8 Tryz.underlying28 hj' hz0 hz1 hz2 rfl (by decide) (.slice (some ⟨wB.heap.size, 0, none⟩) 1 1) 1 [.int .i64 x] rfl HT6.out ⟨gl, i, none⟩ (m - i) (cap - i) (((s.loop.drop i).take (m - i)).map (Value.int .i64)) rfl HN6.out HP6.out cells_int (by omega) c8 c9 (by simp; omega) (wB.heap.size + 1) (by simp) ?_; intro g6 cap6 w6 hr6 hg6 hat6 hlt6; have b6 := HA3.out.blk.grown hg6 nb6; obtain ⟨lb6, z0, z1, z2, z3, u2, u3⟩ := four b6; have s6 := (HS5.out.alloc (.cells #[.int .i64 x] 3)).drew.grown hg6 ns6; have t6 := (HT5.out.alloc (.cells #[.int .i64 x] 3)).drew.grown hg6 nt6; obtain ⟨ls6, a0, a1, a2, a3, -⟩ := four s6; obtain ⟨lt6, b0, b1, b2, b3, v2, v3⟩ := four t6; have v0 := t6.frozen 0; have v1 := t6.frozen 1; have HT6b := Lib.hid t6; have HG6 := Lib.hid hg6; have HR6 := Lib.hid hr6; have HAT6 := Lib.hid hat6; clear b6 s6 t6 hg6 hr6 hat6))
    all_goals
      go_wp2
      have e6 : 1 + (m - i) = (x :: (x :: y :: r).drop i).length := by have := HLM.out; rw [HL.out] at this; simp at this ⊢; omega
      have e7 : [Value.int .i64 x] ++ ((s.loop.drop i).take (m - i)).map (Value.int .i64) = intsV (x :: (x :: y :: r).drop i) := by
        have := HLM.out
        rw [HL.out] at this ⊢
        rw [List.take_of_length_le (by rw [List.length_drop]; omega)]
        simp [intsV]
      have hr6 := HR6.out
      rw [e6, e7] at hr6
      have A6 := HB5.out.reloop (l := x :: (x :: y :: r).drop i) (gGrown (gDrew (World.grownBy_alloc _ _ _)) HG6.out (fun j e => .inr (Nat.le_of_eq (Option.some.inj e)))) hr6 (.inr ⟨g6, rfl, by
        rcases HAT6.out with e | e
        · exact Nat.le_of_eq (Option.some.inj e)
        · omega⟩) (by simp)
      rw [← e6] at A6
      have hwB := HBW.out.kept.size
      have hB6 := ((HBW.out.kept.alloc (.cells #[.int .i64 x] 3)).drew).grown HG6.out (fun j e => .inr (by
        have : wB.heap.size = j := Option.some.inj e
        omega))
      have hO6 : ∀ k, OwnA b (.slice (some ⟨gC, 0, none⟩) n capC) (.slice (some ⟨g6, 0, none⟩) (1 + (m - i)) cap6) (.slice aW5 _ cW5) vs5 k → OwnA b (.slice (some ⟨gC, 0, none⟩) n capC) (.slice (some ⟨gl, 0, none⟩) m cap) (.slice aW wl cW) vs k ∨ w.heap.size ≤ k := fun k hk => by
        rcases own_reloop (vL := .slice (some ⟨gl, 0, none⟩) m cap) (z := w.heap.size) (.inr ⟨g6, rfl, by
          rcases HAT6.out with e | e
          · have e3 : wB.heap.size = g6 := Option.some.inj e
            omega
          · have e3 : g6 = wB.heap.size + 1 := e
            omega⟩) k hk with h1 | h1
        · exact HBW.out.own k h1
        · exact .inr h1
      obtain ⟨o1, o2, o3⟩ := A6.out4 (HT6b.out.far (p := ⟨b, 2, none⟩) (by simp only; omega) _) (hB6.setCell (p := ⟨b, 2, none⟩) (.inl (.inl rfl)) _) (Nat.le_refl _) (.int .u8 83) (.int .i64 (c : Int)) (.int .i64 (wl : Int)) (.int .i64 (m : Int))
      obtain ⟨-, p0, p1, p2, p3, -⟩ := four o2
      exact bodyPost_ret (v := .tuple #[.agg #[.int .u8 83, .int .i64 (c : Int), .int .i64 (wl : Int), .int .i64 (m : Int)], .bool true]) (by simp [results, Tryz.results60, go_sem, p0, p1, p2, p3]) rfl ⟨rfl, _, _, _, o1, o3, hO6⟩
end Go.Proofs.YtghlnknncahkgaaGreat
/-
  (*way).step, at the letter E, where a loop waits, by walking its text.
-/
namespace Go.Proofs.YtghlnknncahkgaaGreat
open Go.RowKit Go.Maps

set_option maxRecDepth 100000 in
set_option maxHeartbeats 2000000 in
theorem stepE_any {w : World} {base g b n : Nat} {vC vL vW : Value} {vs : List Value} {s : WSt} {T : List Tr} (hT : Tab w g n T) (h : WayAt w base g b vC vL vW vs n s) {x y : Int} {r : List Int} (hl : s.loop = x :: y :: r)
    (hx : -1 ≤ x ∧ x ≤ 10000) (hy : -1 ≤ y ∧ y ≤ 10000) (hc : 0 ≤ facI T (x, y)) (hv : vertI T (facI T (x, y)) ∈ s.come) (_hlen : r.length ≤ 50000) (hwl : s.wait.length ≤ 50000) (h1 : r.length = 1) {ws : List (List Int)} {l' : List Int} (hws : s.wait = ws ++ [l']) (hl' : l' ≠ []) :
    Calls Tryz.prog 60 #[.pointer (some ⟨b, 0, none⟩)] w fun e w' => e = .returned (.tuple #[.agg #[.int .u8 69, .int .i64 (facI T (x, y)), .int .i64 s.wait.length, .int .i64 (r.length + 2 : Nat)], .bool true]) ∧
      (∃ vL' vW' vs', WayAt w' base g b vC vL' vW' vs' n ⟨s.come, l', ws⟩ ∧ Kind w w' b vC vL vW vs vL' vW' vs') := by
  have hL := h.L
  rw [hl] at hL
  obtain ⟨m, hm⟩ : ∃ m, (x :: y :: r).length = m := ⟨_, rfl⟩
  rw [hm] at hL
  have hm2 : r.length + 2 = m := hm
  obtain ⟨gl, cap, rfl, hgl, hcap, hcap2⟩ := own_form hL (by omega)
  obtain ⟨aW, cW, rfl⟩ := ownsRow_slice h.W
  obtain ⟨lb, c0, c1, c2, c3, f2, f3⟩ := four h.blk
  have hs0 : (intsV (x :: y :: r))[0]? = some (.int .i64 x) := rfl
  have l0 : w.cell? ⟨gl, 0, none⟩ = some (.int .i64 x) := by rw [hL.cellAt 0 (by omega)]; exact hs0
  have l1 : w.cell? ⟨gl, 1, none⟩ = some (.int .i64 y) := by rw [hL.cellAt 1 (by omega)]; rfl
  have hnil := fun (W : World) => Lib.run_eql_slice_nil (P := Tryz.prog) W 28 3 (some ⟨gl, 0, none⟩) m cap 0 0 Tryz.underlying28
  obtain ⟨c, hce⟩ : ∃ c : Nat, facI T (x, y) = (c : Int) := ⟨(facI T (x, y)).toNat, by omega⟩
  have hcl := (facI_some hce).1
  have hvb := vertN_in hT.inr hcl
  obtain ⟨v, hve⟩ : ∃ v : Nat, vertI T (facI T (x, y)) = (v : Int) := ⟨(vertN T c).toNat, by rw [hce, vertI_nat hcl]; omega⟩
  have hvn : v < n := by rw [hce, vertI_nat hcl] at hve; omega
  obtain ⟨bs, hC, hbs⟩ := h.C
  obtain ⟨gC, capC, rfl, hgC, hcC, -⟩ := own_form hC (by omega)
  have hbv : bs[v]? = some true := (hbs.2 v hvn).2 (by rw [← hve]; exact hv)
  have cv : w.cell? ⟨gC, v, none⟩ = some (.bool true) := by
    rw [hC.cellAt v (by omega)]
    simp [bools, hbv]
  have HF := Lib.hid (fun (W : World) (hW : Below w.heap.size w W) => facing_any g n x y T W (hT.below hW) hx hy)
  have HV := Lib.hid (fun (W : World) (hW : Below w.heap.size w W) => (show Calls Tryz.prog 36 #[.pointer (some ⟨g, 0, none⟩), .int .i64 (c : Int)] W fun e w' => e = .returned (.int .i64 (v : Int)) ∧ W = w' from by
    have := vertex_any g n (facI T (x, y)) T W (hT.below hW).toTabS
    rw [hve, hce] at this
    exact this))
  have HI := Lib.hid (fun (W : World) (hW : WayAt W base g b (.slice (some ⟨gC, 0, none⟩) n capC) (.slice (some ⟨gl, 0, none⟩) m cap) (.slice aW s.wait.length cW) vs n s) => (show Calls Tryz.prog 87 #[.slice (some ⟨gl, 0, none⟩) m cap, .int .i64 (v : Int)] W fun e w' => e = .returned (.int .i64 (Lib.idxOf s.loop (v : Int))) ∧ w' = W from by
    have h2 := hW.L
    have h3 : s.loop.length = m := by rw [hl]; exact hm
    rw [h3] at h2
    have := Tryz.slices_Index_int gl 0 m cap s.loop (v : Int) W (Nat.le_of_eq h3.symm) (by omega) (fun j hj => by
      rw [Nat.zero_add, h2.cellAt j (by rw [Nat.mul_one, ← h3]; exact hj)]
      simp [intsV, List.getD, List.getElem?_eq_getElem hj])
    rw [show s.loop.take m = s.loop from List.take_of_length_le (by omega)] at this
    exact this))
  rw [hve] at hv
  rw [hce] at HF ⊢
  rw [hm2]
  obtain ⟨wl, hwe⟩ : ∃ wl, s.wait.length = wl := ⟨_, rfl⟩
  rw [hwe] at hwl c3 h HI ⊢
  have H := Lib.hid h
  have HL := Lib.hid hl
  have HM := Lib.hid hm
  have HWE := Lib.hid hwe
  have hm3 : m ≤ 50002 := by omega
  have hm4 : 2 ≤ m := by omega
  obtain ⟨zI, HIX0⟩ : ∃ z, Lib.idxOf s.loop (v : Int) = z := ⟨_, rfl⟩
  have HIX := Lib.hid HIX0
  have n3 : ((m : Int) == 3) = true := by simp; omega
  clear HIX0 h1
  obtain ⟨k, hk⟩ : ∃ k, ws.length = k := ⟨_, rfl⟩
  have hwk : wl = k + 1 := by rw [← hwe, hws]; simp [hk]
  subst hwk
  obtain ⟨vs', u, hvs⟩ : ∃ vs' u, vs = vs' ++ [u] := by
    have hvl := h.vlen
    rcases List.eq_nil_or_concat vs with e | ⟨a, c, e⟩
    · rw [e, hws] at hvl
      simp at hvl
    · exact ⟨a, c, by rw [e]; simp⟩
  subst hvs
  have hvl : vs'.length = k := by
    have := h.vlen
    rw [hws] at this
    simp at this
    omega
  have hW := h.W
  rw [hwe] at hW
  obtain ⟨gW, capW, eW, hgW, hkW, hcW⟩ := own_form hW (by omega)
  injection eW with eW1 _ eW3
  subst eW1 eW3
  have cu : w.cell? ⟨gW, k, none⟩ = some u := by
    rw [hW.cellAt k (by omega), ← hvl]
    simp
  obtain ⟨aU, nU, cU, rfl⟩ : ∃ a n c, u = .slice a n c := by
    obtain ⟨a, c, e⟩ := ownsRow_slice (h.rows vs'.length u l' (by simp) (by rw [hws, hvl, ← hk]; simp))
    exact ⟨a, _, c, e⟩
  have nWb : gW ≠ b := fun e => own_blk_ne hW h.blk (by decide) (by rw [← e]; rfl)
  have nbW : b ≠ gW := fun e => nWb e.symm
  have HWS := Lib.hid hws
  have HK := Lib.hid hk
  have HL2 := Lib.hid hl'
  clear hws hk hl' hW hvl
  clear h hT hl hL hs0 hm hm2 hce hcl hvb hve hC hbs hbv hv hc hwe
  go_enter Tryz.func60, Tryz.ntmps60
  go_wp2
  have hA := H.out.alloc (.cells #[.int .u8 0, .int .i64 0, .int .i64 0, .int .i64 0] 55)
  have hB0 : Below w.heap.size w (w.alloc (.cells #[.int .u8 0, .int .i64 0, .int .i64 0, .int .i64 0] 55)) := (Below.refl _ _).alloc (Nat.le_refl _) _
  have b0 := Blk.new w 55 #[.int .u8 0, .int .i64 0, .int .i64 0, .int .i64 0]
  have hszA : w.heap.size < (w.alloc (.cells #[.int .u8 0, .int .i64 0, .int .i64 0, .int .i64 0] 55)).heap.size := by simp
  generalize w.alloc (.cells #[.int .u8 0, .int .i64 0, .int .i64 0, .int .i64 0] 55) = wA at *
  obtain ⟨lb', c0', c1', c2', c3', -⟩ := four hA.blk
  have l0' := (hB0.cell (p := ⟨gl, 0, none⟩) hgl).trans l0
  have l1' := (hB0.cell (p := ⟨gl, 1, none⟩) hgl).trans l1
  have HA := Lib.hid hA
  have HB0 := Lib.hid hB0
  have Hb0 := Lib.hid b0
  clear hA hB0 b0
  have i0 : (0 : Int) < (m : Int) := by omega
  have i1 : (1 : Int) < (m : Int) := by omega
  have d0 := cell_regrown c0'
  have d2 := cell_regrown c2'
  have q0 := cell_regrown l0'
  have q1 := cell_regrown l1'
  refine wp_region_quiet_below (by kernel_rfl) (by kernel_rfl) ?_
  repeat (go_big_quiet_step ((go_at_call 62; exact Calls.regrown_of (HF.out _ (HB0.out.trans ((below_regrown wA _ _).mono HB0.out.size))))))
  refine wpQuiet_nil ?_
  intro _ hw'
  obtain ⟨⟨dq, osq⟩, hw''⟩ := hw'
  subst hw''
  have hB1 := below_regrown wA dq osq
  generalize Sort.grow (redrawn wA dq) osq = w1 at *
  have hA1 := HA.out.below hB1
  obtain ⟨lb1, x0, x1, x2, x3, y2, y3⟩ := four hA1.blk
  have HA1 := Lib.hid hA1
  have hB2 := HB0.out.trans (hB1.mono HB0.out.size)
  have cv1 := (hB2.cell (p := ⟨gC, v, none⟩) hgC).trans cv
  have lx1 := (hB2.cell (p := ⟨gl, 0, none⟩) hgl).trans l0
  have hsz1 := hB1.size
  have hgC1 : gC < w1.heap.size := by omega
  have hgl1 : gl < w1.heap.size := by omega
  have HB1 := Lib.hid hB1
  have HB2 := Lib.hid hB2
  have HA2 := Lib.hid (HA1.out.alloc (.cells #[.int .u8 0, .int .i64 (c : Int), .int .i64 ((k : Int) + 1), .int .i64 (m : Int)] 55))
  have hbbN : base ≤ w.heap.size := H.out.ble
  have k1 : b ≠ w.heap.size := fun e => by have := lb; omega
  have k2 : b ≠ w1.heap.size := by omega
  have k3 : w.heap.size ≠ w1.heap.size := by omega
  clear hA1 hB1 hB2 d0 d2 q0 q1 c0' c2' l0' l1' c1' c3'
  have cu1 := (HB2.out.cell (p := ⟨gW, k, none⟩) hgW).trans cu
  have hgW1 : gW < w1.heap.size := by omega
  have j0 : (0 : Int) ≤ (k : Int) := by omega
  have j1 : (k : Int) < (k : Int) + 1 := by omega
  have j2 : (k : Int) ≤ (cW : Int) := by omega
  have j3 : k < k + 1 := by omega
  go_wp2_with (first | (go_at_call 36; refine (HV.out _ HB2.out).mono ?_; rintro e w2 ⟨rfl, rfl⟩) | (go_at_call 87; refine (HI.out _ HA2.out).mono ?_; rintro e w2 ⟨rfl, rfl⟩; rw [HIX.out]))
  have bW : Blk ((w1.setCell ⟨b, 2, none⟩ (.slice none 0 0)).alloc (.cells #[.int .u8 69, .int .i64 (c : Int), .int .i64 ((k : Int) + 1), .int .i64 (m : Int)] 55)) b 145 #[.pointer (some ⟨g, 0, none⟩), .slice (some ⟨gC, 0, none⟩) n capC, .slice none 0 0, .slice (some ⟨gW, 0, none⟩) (k + 1) cW] := by
    have := (HA1.out.blk.set_ 2 (.slice none 0 0)).alloc (.cells #[.int .u8 69, .int .i64 (c : Int), .int .i64 ((k : Int) + 1), .int .i64 (m : Int)] 55)
    simpa using this
  have bS : Blk ((w1.setCell ⟨b, 2, none⟩ (.slice none 0 0)).alloc (.cells #[.int .u8 69, .int .i64 (c : Int), .int .i64 ((k : Int) + 1), .int .i64 (m : Int)] 55)) w1.heap.size 55 #[.int .u8 69, .int .i64 (c : Int), .int .i64 ((k : Int) + 1), .int .i64 (m : Int)] := blk_new_at (by simp [World.setCell])
  have bR : Blk ((w1.setCell ⟨b, 2, none⟩ (.slice none 0 0)).alloc (.cells #[.int .u8 69, .int .i64 (c : Int), .int .i64 ((k : Int) + 1), .int .i64 (m : Int)] 55)) w.heap.size 55 #[.int .u8 0, .int .i64 0, .int .i64 0, .int .i64 0] := ((Hb0.out.below HB1.out hszA).far (p := ⟨b, 2, none⟩) (by simp only; omega) _).alloc _
  have hBE : Kept (OwnA b (.slice (some ⟨gC, 0, none⟩) n capC) (.slice (some ⟨gl, 0, none⟩) m cap) (.slice (some ⟨gW, 0, none⟩) (k + 1) cW) (vs' ++ [.slice aU nU cU])) w ((w1.setCell ⟨b, 2, none⟩ (.slice none 0 0)).alloc (.cells #[.int .u8 69, .int .i64 (c : Int), .int .i64 ((k : Int) + 1), .int .i64 (m : Int)] 55)) := ((Kept.of HB2.out).setCell (p := ⟨b, 2, none⟩) (.inl (.inl rfl)) _).alloc _
  have hGE : w1.grownBy ((w1.setCell ⟨b, 2, none⟩ (.slice none 0 0)).alloc (.cells #[.int .u8 69, .int .i64 (c : Int), .int .i64 ((k : Int) + 1), .int .i64 (m : Int)] 55)) (some b) := gAlloc (gStR (World.grownBy.refl _ _)) _
  have cuE : ((w1.setCell ⟨b, 2, none⟩ (.slice none 0 0)).alloc (.cells #[.int .u8 69, .int .i64 (c : Int), .int .i64 ((k : Int) + 1), .int .i64 (m : Int)] 55)).cell? ⟨gW, k, none⟩ = some (.slice aU nU cU) := hGE.cell cu1 (by simpa using nWb)
  have hszE : w1.heap.size < ((w1.setCell ⟨b, 2, none⟩ (.slice none 0 0)).alloc (.cells #[.int .u8 69, .int .i64 (c : Int), .int .i64 ((k : Int) + 1), .int .i64 (m : Int)] 55)).heap.size := by simp [World.setCell]
  generalize (w1.setCell ⟨b, 2, none⟩ (.slice none 0 0)).alloc (.cells #[.int .u8 69, .int .i64 (c : Int), .int .i64 ((k : Int) + 1), .int .i64 (m : Int)] 55) = wE at *
  obtain ⟨lbE, e0, e1, e2, e3, e4, e5⟩ := four bW
  obtain ⟨lsE, s0, s1, s2, s3, -⟩ := four bS
  obtain ⟨ltE, t0, t1, t2, t3, r2, r3⟩ := four bR
  have r0 := bR.frozen 0
  have r1 := bR.frozen 1
  have lgE : gW < wE.heap.size := by omega
  have HbW := Lib.hid bW
  have HbS := Lib.hid bS
  have HbR := Lib.hid bR
  have HBE := Lib.hid hBE
  have HGE := Lib.hid hGE
  clear bW bS bR hBE hGE x0 x1 x2 x3 y2 y3 cv1 cu1 lx1 cu cv l0 l1 c0 c1 c2 c3 f2 f3
  go_region
  have bW5 : Blk (((wE.setCell ⟨b, 2, none⟩ (.slice aU nU cU)).setCell ⟨b, 3, none⟩ (.slice (some ⟨gW, 0, none⟩) k cW)).drew) b 145 #[.pointer (some ⟨g, 0, none⟩), .slice (some ⟨gC, 0, none⟩) n capC, .slice aU nU cU, .slice (some ⟨gW, 0, none⟩) k cW] := by
    have := (((HbW.out.set_ 2 (.slice aU nU cU)).set_ 3 (.slice (some ⟨gW, 0, none⟩) k cW))).drew
    simpa using this
  have A5 := HA1.out.pop rfl HWS.out rfl HK.out HL2.out (gDrew (gStR (gStR HGE.out))) bW5
  have hO5 : ∀ q, OwnA b (.slice (some ⟨gC, 0, none⟩) n capC) (.slice aU nU cU) (.slice (some ⟨gW, 0, none⟩) k cW) vs' q → OwnA b (.slice (some ⟨gC, 0, none⟩) n capC) (.slice (some ⟨gl, 0, none⟩) m cap) (.slice (some ⟨gW, 0, none⟩) (k + 1) cW) (vs' ++ [.slice aU nU cU]) q ∨ w.heap.size ≤ q := fun q hq => by
    rcases hq with e | e | e | e | ⟨u, hu, e⟩
    · exact .inl (.inl e)
    · exact .inl (.inr (.inl e))
    · exact .inl (.inr (.inr (.inr (.inr ⟨_, by simp, e⟩))))
    · exact .inl (.inr (.inr (.inr (.inl e))))
    · exact .inl (.inr (.inr (.inr (.inr ⟨u, List.mem_append_left _ hu, e⟩))))
  have bR5 := ((HbR.out.far (p := ⟨b, 2, none⟩) (by simp only; omega) (.slice aU nU cU)).far (p := ⟨b, 3, none⟩) (by simp only; omega) (.slice (some ⟨gW, 0, none⟩) k cW)).drew
  have bS5 := ((HbS.out.far (p := ⟨b, 2, none⟩) (by simp only; omega) (.slice aU nU cU)).far (p := ⟨b, 3, none⟩) (by simp only; omega) (.slice (some ⟨gW, 0, none⟩) k cW)).drew
  have hB5 := ((HBE.out.setCell (p := ⟨b, 2, none⟩) (.inl (.inl rfl)) (.slice aU nU cU)).setCell (p := ⟨b, 3, none⟩) (.inl (.inl rfl)) (.slice (some ⟨gW, 0, none⟩) k cW)).drew
  generalize (((wE.setCell ⟨b, 2, none⟩ (.slice aU nU cU)).setCell ⟨b, 3, none⟩ (.slice (some ⟨gW, 0, none⟩) k cW)).drew) = wF at *
  clear s0 s1 s2 s3 t0 t1 t2 t3 r0 r1 r2 r3 e0 e1 e2 e3 e4 e5 ltE lsE
  obtain ⟨lsE, s0, s1, s2, s3, -⟩ := four bS5
  obtain ⟨ltE, t0, t1, t2, t3, r2, r3⟩ := four bR5
  have r0 := bR5.frozen 0
  have r1 := bR5.frozen 1
  have HA5 := Lib.hid A5
  have HO5 := Lib.hid hO5
  have HB5 := Lib.hid hB5
  have HR5 := Lib.hid bR5
  clear A5 hO5 hB5 bR5 bS5 bW5 HbW HbR HbS HBE HGE HA1 HA2
  go_wp2
  obtain ⟨o1, o2, o3⟩ := HA5.out.out4 HR5.out HB5.out (Nat.le_refl _) (.int .u8 69) (.int .i64 (c : Int)) (.int .i64 ((k : Int) + 1)) (.int .i64 (m : Int))
  obtain ⟨-, p0, p1, p2, p3, -⟩ := four o2
  exact bodyPost_ret (v := .tuple #[.agg #[.int .u8 69, .int .i64 (c : Int), .int .i64 ((k : Int) + 1), .int .i64 (m : Int)], .bool true]) (by simp [results, Tryz.results60, go_sem, p0, p1, p2, p3]) rfl ⟨rfl, _, _, _, o1, o3, HO5.out⟩
end Go.Proofs.YtghlnknncahkgaaGreat
/-
  (*way).step, at the letter E, where no loop waits, by walking its text.
-/
namespace Go.Proofs.YtghlnknncahkgaaGreat
open Go.RowKit Go.Maps

set_option maxRecDepth 100000 in
set_option maxHeartbeats 2000000 in
theorem stepF_any {w : World} {base g b n : Nat} {vC vL vW : Value} {vs : List Value} {s : WSt} {T : List Tr} (hT : Tab w g n T) (h : WayAt w base g b vC vL vW vs n s) {x y : Int} {r : List Int} (hl : s.loop = x :: y :: r)
    (hx : -1 ≤ x ∧ x ≤ 10000) (hy : -1 ≤ y ∧ y ≤ 10000) (hc : 0 ≤ facI T (x, y)) (hv : vertI T (facI T (x, y)) ∈ s.come) (_hlen : r.length ≤ 50000) (hwl : s.wait.length ≤ 50000) (h1 : r.length = 1) (hws : s.wait = []) :
    Calls Tryz.prog 60 #[.pointer (some ⟨b, 0, none⟩)] w fun e w' => e = .returned (.tuple #[.agg #[.int .u8 69, .int .i64 (facI T (x, y)), .int .i64 s.wait.length, .int .i64 (r.length + 2 : Nat)], .bool true]) ∧
      (∃ vW', Blk w' b 145 #[.pointer (some ⟨g, 0, none⟩), vC, .slice none 0 0, vW'] ∧ Kept (OwnA b vC vL vW vs) w w') := by
  have hL := h.L
  rw [hl] at hL
  obtain ⟨m, hm⟩ : ∃ m, (x :: y :: r).length = m := ⟨_, rfl⟩
  rw [hm] at hL
  have hm2 : r.length + 2 = m := hm
  obtain ⟨gl, cap, rfl, hgl, hcap, hcap2⟩ := own_form hL (by omega)
  obtain ⟨aW, cW, rfl⟩ := ownsRow_slice h.W
  obtain ⟨lb, c0, c1, c2, c3, f2, f3⟩ := four h.blk
  have hs0 : (intsV (x :: y :: r))[0]? = some (.int .i64 x) := rfl
  have l0 : w.cell? ⟨gl, 0, none⟩ = some (.int .i64 x) := by rw [hL.cellAt 0 (by omega)]; exact hs0
  have l1 : w.cell? ⟨gl, 1, none⟩ = some (.int .i64 y) := by rw [hL.cellAt 1 (by omega)]; rfl
  have hnil := fun (W : World) => Lib.run_eql_slice_nil (P := Tryz.prog) W 28 3 (some ⟨gl, 0, none⟩) m cap 0 0 Tryz.underlying28
  obtain ⟨c, hce⟩ : ∃ c : Nat, facI T (x, y) = (c : Int) := ⟨(facI T (x, y)).toNat, by omega⟩
  have hcl := (facI_some hce).1
  have hvb := vertN_in hT.inr hcl
  obtain ⟨v, hve⟩ : ∃ v : Nat, vertI T (facI T (x, y)) = (v : Int) := ⟨(vertN T c).toNat, by rw [hce, vertI_nat hcl]; omega⟩
  have hvn : v < n := by rw [hce, vertI_nat hcl] at hve; omega
  obtain ⟨bs, hC, hbs⟩ := h.C
  obtain ⟨gC, capC, rfl, hgC, hcC, -⟩ := own_form hC (by omega)
  have hbv : bs[v]? = some true := (hbs.2 v hvn).2 (by rw [← hve]; exact hv)
  have cv : w.cell? ⟨gC, v, none⟩ = some (.bool true) := by
    rw [hC.cellAt v (by omega)]
    simp [bools, hbv]
  have HF := Lib.hid (fun (W : World) (hW : Below w.heap.size w W) => facing_any g n x y T W (hT.below hW) hx hy)
  have HV := Lib.hid (fun (W : World) (hW : Below w.heap.size w W) => (show Calls Tryz.prog 36 #[.pointer (some ⟨g, 0, none⟩), .int .i64 (c : Int)] W fun e w' => e = .returned (.int .i64 (v : Int)) ∧ W = w' from by
    have := vertex_any g n (facI T (x, y)) T W (hT.below hW).toTabS
    rw [hve, hce] at this
    exact this))
  have HI := Lib.hid (fun (W : World) (hW : WayAt W base g b (.slice (some ⟨gC, 0, none⟩) n capC) (.slice (some ⟨gl, 0, none⟩) m cap) (.slice aW s.wait.length cW) vs n s) => (show Calls Tryz.prog 87 #[.slice (some ⟨gl, 0, none⟩) m cap, .int .i64 (v : Int)] W fun e w' => e = .returned (.int .i64 (Lib.idxOf s.loop (v : Int))) ∧ w' = W from by
    have h2 := hW.L
    have h3 : s.loop.length = m := by rw [hl]; exact hm
    rw [h3] at h2
    have := Tryz.slices_Index_int gl 0 m cap s.loop (v : Int) W (Nat.le_of_eq h3.symm) (by omega) (fun j hj => by
      rw [Nat.zero_add, h2.cellAt j (by rw [Nat.mul_one, ← h3]; exact hj)]
      simp [intsV, List.getD, List.getElem?_eq_getElem hj])
    rw [show s.loop.take m = s.loop from List.take_of_length_le (by omega)] at this
    exact this))
  rw [hve] at hv
  rw [hce] at HF ⊢
  rw [hm2]
  obtain ⟨wl, hwe⟩ : ∃ wl, s.wait.length = wl := ⟨_, rfl⟩
  rw [hwe] at hwl c3 h HI ⊢
  have H := Lib.hid h
  have HL := Lib.hid hl
  have HM := Lib.hid hm
  have HWE := Lib.hid hwe
  have hm3 : m ≤ 50002 := by omega
  have hm4 : 2 ≤ m := by omega
  obtain ⟨zI, HIX0⟩ : ∃ z, Lib.idxOf s.loop (v : Int) = z := ⟨_, rfl⟩
  have HIX := Lib.hid HIX0
  have n3 : ((m : Int) == 3) = true := by simp; omega
  clear HIX0 h1
  have hw0 : wl = 0 := by rw [← hwe, hws]; rfl
  subst hw0
  clear hws
  clear h hT hl hL hs0 hm hm2 hce hcl hvb hve hC hbs hbv hv hc hwe
  go_enter Tryz.func60, Tryz.ntmps60
  go_wp2
  have hA := H.out.alloc (.cells #[.int .u8 0, .int .i64 0, .int .i64 0, .int .i64 0] 55)
  have hB0 : Below w.heap.size w (w.alloc (.cells #[.int .u8 0, .int .i64 0, .int .i64 0, .int .i64 0] 55)) := (Below.refl _ _).alloc (Nat.le_refl _) _
  have b0 := Blk.new w 55 #[.int .u8 0, .int .i64 0, .int .i64 0, .int .i64 0]
  have hszA : w.heap.size < (w.alloc (.cells #[.int .u8 0, .int .i64 0, .int .i64 0, .int .i64 0] 55)).heap.size := by simp
  generalize w.alloc (.cells #[.int .u8 0, .int .i64 0, .int .i64 0, .int .i64 0] 55) = wA at *
  obtain ⟨lb', c0', c1', c2', c3', -⟩ := four hA.blk
  have l0' := (hB0.cell (p := ⟨gl, 0, none⟩) hgl).trans l0
  have l1' := (hB0.cell (p := ⟨gl, 1, none⟩) hgl).trans l1
  have HA := Lib.hid hA
  have HB0 := Lib.hid hB0
  have Hb0 := Lib.hid b0
  clear hA hB0 b0
  have i0 : (0 : Int) < (m : Int) := by omega
  have i1 : (1 : Int) < (m : Int) := by omega
  have d0 := cell_regrown c0'
  have d2 := cell_regrown c2'
  have q0 := cell_regrown l0'
  have q1 := cell_regrown l1'
  refine wp_region_quiet_below (by kernel_rfl) (by kernel_rfl) ?_
  repeat (go_big_quiet_step ((go_at_call 62; exact Calls.regrown_of (HF.out _ (HB0.out.trans ((below_regrown wA _ _).mono HB0.out.size))))))
  refine wpQuiet_nil ?_
  intro _ hw'
  obtain ⟨⟨dq, osq⟩, hw''⟩ := hw'
  subst hw''
  have hB1 := below_regrown wA dq osq
  generalize Sort.grow (redrawn wA dq) osq = w1 at *
  have hA1 := HA.out.below hB1
  obtain ⟨lb1, x0, x1, x2, x3, y2, y3⟩ := four hA1.blk
  have HA1 := Lib.hid hA1
  have hB2 := HB0.out.trans (hB1.mono HB0.out.size)
  have cv1 := (hB2.cell (p := ⟨gC, v, none⟩) hgC).trans cv
  have lx1 := (hB2.cell (p := ⟨gl, 0, none⟩) hgl).trans l0
  have hsz1 := hB1.size
  have hgC1 : gC < w1.heap.size := by omega
  have hgl1 : gl < w1.heap.size := by omega
  have HB1 := Lib.hid hB1
  have HB2 := Lib.hid hB2
  have HA2 := Lib.hid (HA1.out.alloc (.cells #[.int .u8 0, .int .i64 (c : Int), .int .i64 0, .int .i64 (m : Int)] 55))
  have hbbN : base ≤ w.heap.size := H.out.ble
  have k1 : b ≠ w.heap.size := fun e => by have := lb; omega
  have k2 : b ≠ w1.heap.size := by omega
  have k3 : w.heap.size ≠ w1.heap.size := by omega
  clear hA1 hB1 hB2 d0 d2 q0 q1 c0' c2' l0' l1' c1' c3'
  go_upto_region 28 with (first | (go_at_call 36; refine (HV.out _ HB2.out).mono ?_; rintro e w2 ⟨rfl, rfl⟩) | (go_at_call 87; refine (HI.out _ HA2.out).mono ?_; rintro e w2 ⟨rfl, rfl⟩; rw [HIX.out]))
  all_goals
    have bW : Blk ((w1.setCell ⟨b, 2, none⟩ (.slice none 0 0)).alloc (.cells #[.int .u8 69, .int .i64 (c : Int), .int .i64 0, .int .i64 (m : Int)] 55)) b 145 #[.pointer (some ⟨g, 0, none⟩), .slice (some ⟨gC, 0, none⟩) n capC, .slice none 0 0, .slice aW 0 cW] := by
      have := (HA1.out.blk.set_ 2 (.slice none 0 0)).alloc (.cells #[.int .u8 69, .int .i64 (c : Int), .int .i64 0, .int .i64 (m : Int)] 55)
      simpa using this
    have bS : Blk ((w1.setCell ⟨b, 2, none⟩ (.slice none 0 0)).alloc (.cells #[.int .u8 69, .int .i64 (c : Int), .int .i64 0, .int .i64 (m : Int)] 55)) w1.heap.size 55 #[.int .u8 69, .int .i64 (c : Int), .int .i64 0, .int .i64 (m : Int)] := blk_new_at (by simp [World.setCell])
    have bR : Blk ((w1.setCell ⟨b, 2, none⟩ (.slice none 0 0)).alloc (.cells #[.int .u8 69, .int .i64 (c : Int), .int .i64 0, .int .i64 (m : Int)] 55)) w.heap.size 55 #[.int .u8 0, .int .i64 0, .int .i64 0, .int .i64 0] := ((Hb0.out.below HB1.out hszA).far (p := ⟨b, 2, none⟩) (by simp only; omega) _).alloc _
    have hBE : Kept (OwnA b (.slice (some ⟨gC, 0, none⟩) n capC) (.slice (some ⟨gl, 0, none⟩) m cap) (.slice aW 0 cW) vs) w ((w1.setCell ⟨b, 2, none⟩ (.slice none 0 0)).alloc (.cells #[.int .u8 69, .int .i64 (c : Int), .int .i64 0, .int .i64 (m : Int)] 55)) := ((Kept.of HB2.out).setCell (p := ⟨b, 2, none⟩) (.inl (.inl rfl)) _).alloc _
    generalize ((w1.setCell ⟨b, 2, none⟩ (.slice none 0 0)).alloc (.cells #[.int .u8 69, .int .i64 (c : Int), .int .i64 0, .int .i64 (m : Int)] 55)) = wE at *
    obtain ⟨lsE, s0, s1, s2, s3, -⟩ := four bS
    obtain ⟨ltE, t0, t1, t2, t3, r2, r3⟩ := four bR
    have r0 := bR.frozen 0
    have r1 := bR.frozen 1
    have HbW := Lib.hid bW
    have HbR := Lib.hid bR
    have HBE := Lib.hid hBE
    clear bW bS bR hBE x0 x1 x2 x3 y2 y3 cv1 lx1 cv l0 l1 c0 c1 c2 c3 f2 f3
    go_wp2
    have q0 := HbR.out.set_ 0 (.int .u8 69)
    have q1 := q0.set_ 1 (.int .i64 (c : Int))
    have q2 := q1.set_ 2 (.int .i64 0)
    have q3 := q2.set_ 3 (.int .i64 (m : Int))
    have o2 : Blk ((((wE.setCell ⟨w.heap.size, 0, none⟩ (.int .u8 69)).setCell ⟨w.heap.size, 1, none⟩ (.int .i64 (c : Int))).setCell ⟨w.heap.size, 2, none⟩ (.int .i64 0)).setCell ⟨w.heap.size, 3, none⟩ (.int .i64 (m : Int))) w.heap.size 55 #[.int .u8 69, .int .i64 (c : Int), .int .i64 0, .int .i64 (m : Int)] := by simpa using q3
    have o1 := (((HbW.out.far (p := ⟨w.heap.size, 0, none⟩) (by simp only; omega) (.int .u8 69)).far (p := ⟨w.heap.size, 1, none⟩) (by simp only; omega) (.int .i64 (c : Int))).far (p := ⟨w.heap.size, 2, none⟩) (by simp only; omega) (.int .i64 0)).far (p := ⟨w.heap.size, 3, none⟩) (by simp only; omega) (.int .i64 (m : Int))
    have o3 := (((HBE.out.setCell (p := ⟨w.heap.size, 0, none⟩) (.inr (Nat.le_refl _)) (.int .u8 69)).setCell (p := ⟨w.heap.size, 1, none⟩) (.inr (Nat.le_refl _)) (.int .i64 (c : Int))).setCell (p := ⟨w.heap.size, 2, none⟩) (.inr (Nat.le_refl _)) (.int .i64 0)).setCell (p := ⟨w.heap.size, 3, none⟩) (.inr (Nat.le_refl _)) (.int .i64 (m : Int))
    obtain ⟨-, p0, p1, p2, p3, -⟩ := four o2
    exact bodyPost_ret (v := .tuple #[.agg #[.int .u8 69, .int .i64 (c : Int), .int .i64 0, .int .i64 (m : Int)], .bool true]) (by simp [results, Tryz.results60, go_sem, p0, p1, p2, p3]) rfl ⟨rfl, _, o1, o3⟩
end Go.Proofs.YtghlnknncahkgaaGreat
/-
  (*way).step: whichever letter.
-/
namespace Go.Proofs.YtghlnknncahkgaaGreat
open Go.RowKit Go.Maps

section
variable {w w' : World} {base g b n : Nat} {S : Nat → Prop} {s s' : WSt} {T : List Tr}
theorem idxFrom_le (x : Int) : ∀ (zs : List Int) (i : Nat), Lib.idxFrom zs x i < (i + zs.length : Nat)
  | [], i => by simp [Lib.idxFrom]; omega
  | z :: zs, i => by
    unfold Lib.idxFrom
    split
    · simp; omega
    · have := idxFrom_le x zs (i + 1)
      simp only [List.length_cons] at this ⊢
      omega
theorem idxOf_le (x : Int) (zs : List Int) : Lib.idxOf zs x < zs.length := by
  have := idxFrom_le x zs 0
  unfold Lib.idxOf
  simpa using this
set_option maxHeartbeats 1000000 in
theorem step_any (hT : Tab w g n T) (h : WayS w base g b n S s) {x : WStep} (hs : stepM T s = some (x, s')) (h1 : ∀ z ∈ s.loop, 0 ≤ z ∧ z < n) (hn : n ≤ 4096) (h2 : s.loop.length ≤ 30000) (h3 : s.wait.length ≤ 30000) (h4 : 3 ≤ s.loop.length) (h5 : ∀ l ∈ s.wait, l ≠ []) :
    Calls Tryz.prog 60 #[.pointer (some ⟨b, 0, none⟩)] w fun e w' => e = .returned (.tuple #[.agg #[.int .u8 x.letter, .int .i64 x.corner, .int .i64 x.loops, .int .i64 x.length], .bool true]) ∧ StpPost w base g b n S s' w' := by
  obtain ⟨-, ⟨vC, vL, vW, vs, hA, hO⟩ | ⟨h0, -⟩⟩ := h
  rotate_left
  · rw [h0] at h4
    simp at h4
  obtain ⟨y, z, r, hl⟩ : ∃ y z r, s.loop = y :: z :: r := by
    match e : s.loop with
    | [] => rw [e] at h4; simp at h4
    | [_] => rw [e] at h4; simp at h4
    | y :: z :: r => exact ⟨y, z, r, rfl⟩
  have hy := h1 y (by rw [hl]; simp)
  have hz := h1 z (by rw [hl]; simp)
  rw [hl] at h2 h4
  simp only [List.length_cons] at h2 h4
  unfold stepM at hs
  rw [hl] at hs
  simp only at hs
  split at hs
  · cases hs
  rename_i hfac
  split at hs
  · rename_i hv
    cases hs
    refine (stepC_any hT hA hl (by omega) (by omega) (by omega) hv (by omega) (by omega)).mono ?_
    rintro e w' ⟨rfl, vL', k1, k2⟩
    exact ⟨rfl, stp_of hO k1 k2⟩
  rename_i hv
  have hv : vertI T (facI T (y, z)) ∈ s.come := by simpa using hv
  split at hs
  · rename_i hr
    cases hs
    cases hw : s.wait with
    | nil =>
      refine (stepF_any hT hA hl (by omega) (by omega) (by omega) hv (by omega) (by omega) hr hw).mono ?_
      rintro e w' ⟨rfl, vW', k1, k2⟩
      refine ⟨by rw [hw], fun k => k = b, ⟨fun k hk => by subst hk; exact ⟨hA.hb, k1.lt⟩, .inr ⟨by simp, rfl, _, _, k1⟩⟩, fun k hk => by subst hk; exact .inl (hO _ (.inl rfl)), k2.mono hO⟩
    | cons l0 lr =>
      obtain ⟨ws, l', hws⟩ : ∃ ws l', s.wait = ws ++ [l'] := by
        rcases List.eq_nil_or_concat s.wait with e | ⟨a, c, e⟩
        · rw [e] at hw; cases hw
        · exact ⟨a, c, by rw [e]; simp⟩
      refine (stepE_any hT hA hl (by omega) (by omega) (by omega) hv (by omega) (by omega) hr hws (h5 l' (by rw [hws]; simp))).mono ?_
      rintro e w' ⟨rfl, vL', vW', vs', k1, k2⟩
      rw [← hw, hws]
      refine ⟨rfl, ?_⟩
      have := stp_of hO k1 k2
      simpa using this
  rename_i hr
  split at hs
  · rename_i hi
    cases hs
    refine (stepL_any hT hA hl (by omega) (by omega) (by omega) hv (by omega) (by omega) (by omega) (by rw [hl]; exact hi)).mono ?_
    rintro e w' ⟨rfl, vL', k1, k2⟩
    exact ⟨rfl, stp_of hO k1 k2⟩
  rename_i hi1
  split at hs
  · rename_i hi
    cases hs
    refine (stepR_any hT hA hl (by omega) (by omega) (by omega) hv (by omega) (by omega) (by omega) (by rw [hl]; exact hi)).mono ?_
    rintro e w' ⟨rfl, vL', k1, k2⟩
    exact ⟨rfl, stp_of hO k1 k2⟩
  rename_i hi2
  split at hs
  · rename_i hi
    cases hs
    have hle := idxOf_le (vertI T (facI T (y, z))) (y :: z :: r)
    simp only [List.length_cons] at hle
    obtain ⟨i, hi'⟩ : ∃ i : Nat, Lib.idxOf (y :: z :: r) (vertI T (facI T (y, z))) = i := ⟨_, (Int.toNat_of_nonneg (by omega)).symm⟩
    rw [hi'] at hi hi1 hi2 hle ⊢
    refine (stepS_any hT hA hl (by omega) (by omega) (by omega) hv (by omega) (by omega) i (by omega) (by omega) (by rw [hl]; exact hi')).mono ?_
    rintro e w' ⟨rfl, vL', vW', vs', k1, k2⟩
    exact ⟨rfl, stp_of hO k1 k2⟩
  · cases hs
end
end Go.Proofs.YtghlnknncahkgaaGreat
/-
  walk.begin, by walking its text.
-/
namespace Go.Proofs.YtghlnknncahkgaaGreat
open Go.RowKit Go.Maps

set_option maxRecDepth 100000 in
set_option maxHeartbeats 2000000 in
theorem begin_any {w : World} {g n c : Nat} {T : List Tr} (hT : Tab w g n T) (hS : Surf n T) (hc : c < 3 * T.length) :
    Calls Tryz.prog 59 #[.pointer (some ⟨g, 0, none⟩), .int .i64 c] w fun e w' => ∃ b vC vL vW vs, e = .returned (.pointer (some ⟨b, 0, none⟩)) ∧ WayAt w' w.heap.size g b vC vL vW vs n (beginS T c) ∧ Below w.heap.size w w' := by
  have hn : (n : Int) ≤ 4096 := hS.n1
  obtain ⟨n1, n2, n3⟩ := vert_ne hS.simple hc
  have hb := Jor.nx_lt hc
  have hd := Jor.pv_lt hc
  obtain ⟨va, hva⟩ : ∃ v : Nat, vertN T c = v := ⟨(vertN T c).toNat, by have := vertN_in hT.inr hc; omega⟩
  obtain ⟨vb, hvb⟩ : ∃ v : Nat, vertN T (Jor.nx c) = v := ⟨(vertN T (Jor.nx c)).toNat, by have := vertN_in hT.inr hb; omega⟩
  obtain ⟨vd, hvd⟩ : ∃ v : Nat, vertN T (Jor.pv c) = v := ⟨(vertN T (Jor.pv c)).toNat, by have := vertN_in hT.inr hd; omega⟩
  have la : va < n := by have := vertN_in hT.inr hc; omega
  have lb : vb < n := by have := vertN_in hT.inr hb; omega
  have ld : vd < n := by have := vertN_in hT.inr hd; omega
  have HV0 := Lib.hid (vertices_any g n T w hT.toTabS)
  have HVa := Lib.hid (fun (W : World) (hW : Below w.heap.size w W) => (show Calls Tryz.prog 36 #[.pointer (some ⟨g, 0, none⟩), .int .i64 (c : Int)] W fun e w' => e = .returned (.int .i64 (va : Int)) ∧ W = w' from by
    have := vertex_any g n (c : Int) T W (hT.below hW).toTabS
    rw [vertI_nat hc, hva] at this
    exact this))
  have HVb := Lib.hid (fun (W : World) (hW : Below w.heap.size w W) => (show Calls Tryz.prog 36 #[.pointer (some ⟨g, 0, none⟩), .int .i64 ((Jor.nx c : Nat) : Int)] W fun e w' => e = .returned (.int .i64 (vb : Int)) ∧ W = w' from by
    have := vertex_any g n ((Jor.nx c : Nat) : Int) T W (hT.below hW).toTabS
    rw [vertI_nat hb, hvb] at this
    exact this))
  have HVd := Lib.hid (fun (W : World) (hW : Below w.heap.size w W) => (show Calls Tryz.prog 36 #[.pointer (some ⟨g, 0, none⟩), .int .i64 ((Jor.pv c : Nat) : Int)] W fun e w' => e = .returned (.int .i64 (vd : Int)) ∧ W = w' from by
    have := vertex_any g n ((Jor.pv c : Nat) : Int) T W (hT.below hW).toTabS
    rw [vertI_nat hd, hvd] at this
    exact this))
  have HN := Lib.hid (fun (W : World) (hW : Below w.heap.size w W) => (show Calls Tryz.prog 38 #[.pointer (some ⟨g, 0, none⟩), .int .i64 (c : Int)] W fun e w' => e = .returned (.int .i64 ((Jor.nx c : Nat) : Int)) ∧ W = w' from by
    have := next_any g n (c : Int) T W (hT.below hW).toTabS
    unfold nextI at this
    rw [hasC_true (by omega) (by omega), if_pos rfl, Int.toNat_natCast] at this
    exact this))
  have HP := Lib.hid (fun (W : World) (hW : Below w.heap.size w W) => (show Calls Tryz.prog 39 #[.pointer (some ⟨g, 0, none⟩), .int .i64 (c : Int)] W fun e w' => e = .returned (.int .i64 ((Jor.pv c : Nat) : Int)) ∧ W = w' from by
    have := prev_any g n (c : Int) T W (hT.below hW).toTabS
    unfold prevI at this
    rw [hasC_true (by omega) (by omega), if_pos rfl, Int.toNat_natCast] at this
    exact this))
  have hbegin : beginS T c = ⟨[(va : Int), vb, vd], [(vb : Int), va, vd], []⟩ := by unfold beginS; rw [hva, hvb, hvd]
  rw [hbegin]
  have m1 : vb ≠ va := fun e => n1 (by rw [hvb, hva, e])
  have m2 : vd ≠ va := fun e => n2 (by rw [hvd, hva, e])
  have m3 : vb ≠ vd := fun e => n3 (by rw [hvb, hvd, e])
  have m4 := m1.symm
  have m5 := m2.symm
  have m6 := m3.symm
  clear hbegin hva hvb hvd n1 n2 n3 hS
  obtain ⟨nb, hnb⟩ : ∃ k, Jor.nx c = k := ⟨_, rfl⟩
  obtain ⟨nd, hnd⟩ : ∃ k, Jor.pv c = k := ⟨_, rfl⟩
  rw [hnb] at HVb HN
  rw [hnd] at HVd HP
  clear hb hd hnb hnd hT hc
  obtain ⟨i2, hj', hz0, hz1, hz2⟩ := info_parts infoBool
  go_enter Tryz.func59, Tryz.ntmps59
  go_wp2_with fail
  refine HV0.out.mono ?_
  rintro e w0 ⟨rfl, rfl⟩
  go_upto_region 2 with (at_make; refine wpList_make_full _ rfl (.tmp 11) (.tmp 11) 122 rfl w.heap.size 4 i2 _ 1 Tryz.underlying122 hj' hz0 hz1 .i64 .i64 _ _ n rfl rfl rfl rfl (by rw [hz2]; omega) (by unfold maxLen; omega) (Nat.le_refl _) ?_; intro w1 hr1 hg1)
  rename World => w1
  have hsz1 := hg1.size
  have hB1 : Below w.heap.size w w1 := (Below.refl _ _).grown hg1 (Nat.le_refl _) (fun j e => by cases e)
  have HB1 := Lib.hid hB1
  have HR1 := Lib.hid hr1
  clear hr1 hg1 hB1
  rw [made_bools] at HR1
  have bw := Blk.new w1 145 #[.pointer (some ⟨g, 0, none⟩), .slice (some ⟨w.heap.size, 0, none⟩) n n, .slice none 0 0, .slice none 0 0]
  have HR2 := Lib.hid (HR1.out.alloc (.cells #[.pointer (some ⟨g, 0, none⟩), .slice (some ⟨w.heap.size, 0, none⟩) n n, .slice none 0 0, .slice none 0 0] 145))
  have HB2 := Lib.hid (HB1.out.alloc hsz1 (.cells #[.pointer (some ⟨g, 0, none⟩), .slice (some ⟨w.heap.size, 0, none⟩) n n, .slice none 0 0, .slice none 0 0] 145))
  have hw1 : w.heap.size < w1.heap.size := (HR1.out.lt w.heap.size rfl).2
  have hw2 : w1.heap.size < (w1.alloc (.cells #[.pointer (some ⟨g, 0, none⟩), .slice (some ⟨w.heap.size, 0, none⟩) n n, .slice none 0 0, .slice none 0 0] 145)).heap.size := by simp
  have k1 := HR2.out.cellAt va (by omega)
  have k2 := HR2.out.cellAt vb (by omega)
  have k3 := HR2.out.cellAt vd (by omega)
  have f1 := HR2.out.frozenAt va
  have f2 := HR2.out.frozenAt vb
  have f3 := HR2.out.frozenAt vd
  simp only [bools, List.map_replicate, List.getElem?_replicate, la, lb, ld, if_true] at k1 k2 k3
  generalize (w1.alloc (.cells #[.pointer (some ⟨g, 0, none⟩), .slice (some ⟨w.heap.size, 0, none⟩) n n, .slice none 0 0, .slice none 0 0] 145)) = W2 at *
  obtain ⟨lbw, c0, c1, c2, c3, g2, g3⟩ := four bw
  have HBw := Lib.hid bw
  clear bw HR1 HB1
  have la' : (va : Int) < (n : Int) := by omega
  have lb' : (vb : Int) < (n : Int) := by omega
  have ld' : (vd : Int) < (n : Int) := by omega
  have hne : w.heap.size ≠ w1.heap.size := by omega
  have hne' : w1.heap.size ≠ w.heap.size := by omega
  have lw2 : w.heap.size < W2.heap.size := by omega
  go_upto_region 3 with (first
    | (go_at_call 36; with_reducible refine (HVa.out _ HB2.out).mono ?_; rintro e w2 ⟨rfl, rfl⟩)
    | (go_at_call 36; with_reducible refine (HVb.out _ HB2.out).mono ?_; rintro e w2 ⟨rfl, rfl⟩)
    | (go_at_call 36; with_reducible refine (HVd.out _ HB2.out).mono ?_; rintro e w2 ⟨rfl, rfl⟩)
    | (go_at_call 38; with_reducible refine (HN.out _ HB2.out).mono ?_; rintro e w2 ⟨rfl, rfl⟩)
    | (go_at_call 39; with_reducible refine (HP.out _ HB2.out).mono ?_; rintro e w2 ⟨rfl, rfl⟩))
  go_region
  obtain ⟨r1, r2⟩ := HR2.out.stored va (.bool true)
  obtain ⟨r3, r4⟩ := r1.stored vb (.bool true)
  obtain ⟨r5, r6⟩ := r3.stored vd (.bool true)
  have bw3 : Blk ((((W2.setCell ⟨w.heap.size, va, none⟩ (.bool true)).setCell ⟨w.heap.size, vb, none⟩ (.bool true)).setCell ⟨w.heap.size, vd, none⟩ (.bool true)).drew) w1.heap.size 145 #[.pointer (some ⟨g, 0, none⟩), .slice (some ⟨w.heap.size, 0, none⟩) n n, .slice none 0 0, .slice none 0 0] := (((HBw.out.far (p := ⟨w.heap.size, va, none⟩) (by simp only; omega) _).far (p := ⟨w.heap.size, vb, none⟩) (by simp only; omega) _).far (p := ⟨w.heap.size, vd, none⟩) (by simp only; omega) _).drew
  have r7 : World.ownsRow ((((W2.setCell ⟨w.heap.size, va, none⟩ (.bool true)).setCell ⟨w.heap.size, vb, none⟩ (.bool true)).setCell ⟨w.heap.size, vd, none⟩ (.bool true)).drew) w.heap.size 4 1 (.slice (some ⟨w.heap.size, 0, none⟩) n n) n ((((bools (List.replicate n false)).set va (.bool true)).set vb (.bool true)).set vd (.bool true)) := r5
  have HB3 : Below w.heap.size w ((((W2.setCell ⟨w.heap.size, va, none⟩ (.bool true)).setCell ⟨w.heap.size, vb, none⟩ (.bool true)).setCell ⟨w.heap.size, vd, none⟩ (.bool true)).drew) := (((HB2.out.setCell (p := ⟨w.heap.size, va, none⟩) (Nat.le_refl _) _).setCell (p := ⟨w.heap.size, vb, none⟩) (Nat.le_refl _) _).setCell (p := ⟨w.heap.size, vd, none⟩) (Nat.le_refl _) _).drew
  generalize ((((W2.setCell ⟨w.heap.size, va, none⟩ (.bool true)).setCell ⟨w.heap.size, vb, none⟩ (.bool true)).setCell ⟨w.heap.size, vd, none⟩ (.bool true)).drew) = W3 at *
  clear k1 k2 k3 f1 f2 f3 c0 c1 c2 c3 g2 g3 lbw
  obtain ⟨lbw, c0, c1, c2, c3, g2, g3⟩ := four bw3
  have bits : BitsOf (((((List.replicate n false).set va true).set vb true).set vd true)) n [(va : Int), vb, vd] := ((BitsOf.none_ n).mark la |>.mark lb |>.mark ld)
  rw [bools_set, bools_set, bools_set] at r7
  have HR3 := Lib.hid r7
  have HB3' := Lib.hid HB3
  have HBw3 := Lib.hid bw3
  have hsz3 := HB3.size
  clear r1 r2 r3 r4 r5 r6 r7 HB3 bw3
  go_wp2
  have hz : (W3.setCell ⟨w1.heap.size, 2, none⟩ (.slice (some ⟨W3.heap.size, 0, none⟩) 3 3)).heap.size = W3.heap.size := by simp [World.setCell]
  have bL : Blk ((W3.setCell ⟨w1.heap.size, 2, none⟩ (.slice (some ⟨W3.heap.size, 0, none⟩) 3 3)).alloc (.cells #[.int .i64 vb, .int .i64 va, .int .i64 vd] 3)) W3.heap.size 3 #[.int .i64 vb, .int .i64 va, .int .i64 vd] := blk_new_at hz
  have hL : ((W3.setCell ⟨w1.heap.size, 2, none⟩ (.slice (some ⟨W3.heap.size, 0, none⟩) 3 3)).alloc (.cells #[.int .i64 vb, .int .i64 va, .int .i64 vd] 3)).ownsRow w.heap.size 3 1 (.slice (some ⟨W3.heap.size, 0, none⟩) 3 3) 3 [.int .i64 vb, .int .i64 va, .int .i64 vd] :=
    ⟨rfl, .inr ⟨_, 3, _, rfl, hsz3, bL, Nat.le_refl _, by decide, rfl, rfl⟩⟩
  have bA := (HBw3.out.set_ 2 (.slice (some ⟨W3.heap.size, 0, none⟩) 3 3)).alloc (.cells #[.int .i64 vb, .int .i64 va, .int .i64 vd] 3)
  have hC := (own_alloc_st (i := 2) (u := .slice (some ⟨W3.heap.size, 0, none⟩) 3 3) HR3.out HBw3.out (by decide)).alloc (.cells #[.int .i64 vb, .int .i64 va, .int .i64 vd] 3)
  go_ret
  refine ⟨w1.heap.size, .slice (some ⟨w.heap.size, 0, none⟩) n n, .slice (some ⟨W3.heap.size, 0, none⟩) 3 3, .slice none 0 0, [], rfl, ⟨?_, by omega, ⟨_, hC, bits⟩, hL, World.ownsRow_nil _ _ _ _, fun i u r hu _ => by simp at hu, ⟨fun v hv => ?_, by simp⟩, by simp⟩, ?_⟩
  · simpa using bA
  · rw [List.mem_singleton.1 hv]
    exact ⟨_, rfl⟩
  · exact (HB3'.out.setCell (p := ⟨w1.heap.size, 2, none⟩) (by simp only; omega) _).alloc (by rw [hz]; exact hsz3) _
end Go.Proofs.YtghlnknncahkgaaGreat
/-
  walk.Steps: the iterator's contract: all steps, or as many as are asked for.
-/
namespace Go.Proofs.YtghlnknncahkgaaGreat
open Go.RowKit Go.Maps Go.Shelf
attribute [local go_sem] Oper.semAt_some

/-- walk.Steps: the function value holds the table and the corner in boxes. -/
theorem wsteps_any (F : Fence) (n : Nat) (h6 : F.fn 27) (hro : F.round = none) (a : Option Addr) (r : Int) (w : World) :
    CallsIn F n Tryz.prog 27 #[.pointer a, .int .i64 r] w fun e w' => e = .returned (.func (.func 58) #[] #[.pointer (some ⟨w.heap.size, 0, none⟩), .pointer (some ⟨w.heap.size + 1, 0, none⟩)]) ∧ w' = (w.alloc (.cells #[.pointer a] 26)).alloc (.cells #[.int .i64 r] 3) := by
  refine callsIn_of_wp Tryz.func27 rfl h6 ?_ hro
  simp only [Tryz.ntmps27, List.size_toArray, List.length_cons, List.length_nil, Nat.reduceAdd, Nat.reduceSub, Array.replicate_succ, Array.replicate_zero, List.push_toArray, List.append_toArray, List.nil_append, List.cons_append]
  gi_wp2
  go_ret
  exact ⟨rfl, rfl⟩
/-- A step as it is yielded. -/
def encS (x : WStep) : Array Value := #[.agg #[.int .u8 x.letter, .int .i64 x.corner, .int .i64 x.loops, .int .i64 x.length]]
/-- The iterator's state between two rounds. -/
structure SteI (w : World) (g n : Nat) (T : List Tr) (c b : Nat) (base : Nat) (J : List WStep → (Nat → Prop) → World → Prop) (k : Nat) (W : World) : Prop where
  st : ∃ L s S C, Ran T (beginS T c) L s ∧ WayS W base g b n S s ∧ J L C W ∧ (∀ j, C j → w.heap.size ≤ j ∧ j < W.heap.size ∧ ¬ S j) ∧ k + L.length = T.length
  below : Below w.heap.size w W
set_option maxRecDepth 100000 in
set_option maxHeartbeats 4000000 in
theorem steps1_sep {w : World} {m Bt Bc g n c : Nat} {T : List Tr} (hs : Simp n T) (hT : Tab w g n T) (hc : c < 3 * T.length) :
    SeqSep Fence.wide m Tryz.prog 58 #[.pointer (some ⟨Bt, 0, none⟩), .pointer (some ⟨Bc, 0, none⟩)] encS (fun xs => xs = stepsM T c) (fun pre => ∃ s, Ran T (beginS T c) pre s) T.length w (fun _ => False) (fun W => W.cell? ⟨Bt, 0, none⟩ = some (.pointer (some ⟨g, 0, none⟩)) ∧ W.cell? ⟨Bc, 0, none⟩ = some (.int .i64 c) ∧ Bt < W.heap.size ∧ Bc < W.heap.size) := by
  rintro l J Jx W C hW ⟨t0, c0, lt, lc⟩ - hJ hJx hY h0 hC
  have hTl := hT.len
  have hn : n ≤ 4096 := by have := hs.surf.n1; omega
  have hz := hW.size
  have HCk := Lib.hid (check_walk g n T W (c : Int) (hT.below hW) hs.surf (by omega) (fun W' hW' => loopsPost_closed ((hT.below hW).below hW') hs.closed hn))
  rw [if_neg (by omega), if_pos ((chk_simp hs.surf).2 hs)] at HCk
  have HT := Lib.hid (fun (W' : World) (hW' : Below w.heap.size w W') => hT.below hW')
  have HS := Lib.hid hs
  have HJ := Lib.hid hJ
  have HY := Lib.hid hY
  have HJ0 := Lib.hid h0
  have HC := Lib.hid hC
  have HW := Lib.hid hW
  clear hs hT hJ hJx hY h0 hC hW
  refine callsIn_of_wp Tryz.func58 rfl trivial ?_ rfl
  simp only [Tryz.ntmps58, List.size_toArray, List.length_cons, List.length_nil, Nat.reduceAdd, Nat.reduceSub, Array.replicate_succ, Array.replicate_zero, List.push_toArray, List.append_toArray, List.nil_append, List.cons_append]
  gi_wp2_with fail
  refine ⟨trivial, fun h => (by simp [Fence.wide] at h), (callsIn_wide.2 HCk.out).mono ?_⟩
  rintro e w1 ⟨rfl, hb1⟩
  have t1 := (hb1.cell (p := ⟨Bt, 0, none⟩) (by simp only; omega)).trans t0
  have c1 := (hb1.cell (p := ⟨Bc, 0, none⟩) (by simp only; omega)).trans c0
  have HW1 := Lib.hid (HW.out.trans (hb1.mono hz))
  have HB1 := Lib.hid hb1
  clear hb1 HCk t0 c0
  gi_wp2_with fail
  refine ⟨trivial, fun h => (by simp [Fence.wide] at h), (callsIn_wide.2 (begin_any (HT.out w1 HW1.out) HS.out.surf hc)).mono ?_⟩
  rintro e w2 ⟨b, vC, vL, vW, vs, rfl, hA, hb2⟩
  have hb12 := HB1.out.trans (hb2.mono HB1.out.size)
  have HI := Lib.hid (show SteI w g n T c b w1.heap.size J T.length w2 from ⟨⟨[], beginS T c, OwnA b vC vL vW vs, C, .nil, ⟨fun j hj => hA.own_ge hj, .inl ⟨vC, vL, vW, vs, hA, fun _ h => h⟩⟩, HJ.out _ _ _ _ HJ0.out (hb12.mono hz) (fun j hj => hb12.block j (HC.out j hj).2.1),
    fun j hj => by
      have h1 := HC.out j hj
      have h2 := hb12.size
      have h3 := HB1.out.size
      exact ⟨h1.1, by omega, fun h => by have := (hA.own_ge h).1; omega⟩, by simp⟩, HW1.out.trans (hb2.mono HW1.out.size)⟩)
  have hz1 := HW1.out.size
  clear hA hb2 hb12 t1 c1 HB1
  gi_wp2
  gi_loopg [] T.length (fun k wr => SteI w g n T c b w1.heap.size J k wr)
  case atStart => exact HI.out
  case round =>
    clear HI HJ0 HC
    rename World => wr
    obtain ⟨⟨L, s, S, C1, R, hWs, hJL, hC1, hk⟩, hB⟩ := hrel
    obtain ⟨Xs, G⟩ := R.gone HS.out hc
    have hzr := hB.size
    have hbw1 : w.heap.size ≤ w1.heap.size := hz1
    have stab : ∀ (A : World), Kept S wr A → J L C1 A := fun A hK => HJ.out _ _ _ _ hJL (hK.below (fun j hj => by have := (hWs.1 j hj).1; omega) hzr) (fun j hj => hK.block j (hC1 j hj).2.1 (hC1 j hj).2.2)
    have HST := Lib.hid stab
    by_cases hl : s.loop = []
    · have HE := Lib.hid (step_end hWs hl (by
        obtain ⟨h1, ⟨vC, vL, vW, vs, h2, h3⟩ | ⟨h2, h3, h4⟩⟩ := hWs
        · exact h2.ble
        · have := h1 b h3
          omega))
      have HR := Lib.hid (R.steps HS.out hc hl)
      clear hWs hJL hC1 hB G R stab
      gi_wp2_with fail
      refine ⟨trivial, fun h => (by simp [Fence.wide] at h), (callsIn_wide.2 HE.out).mono ?_⟩
      rintro e w3 ⟨rfl, hK⟩
      have HJ3 := Lib.hid (HST.out _ (hK.alloc (.cells #[.int .u8 0, .int .i64 0, .int .i64 0, .int .i64 0] 55)))
      clear hK HE
      gi_wp2
      refine ⟨fun f h => (by cases h), ?_⟩
      gi_wp2
      refine bodyPost_ret (results_none rfl _ _ _) rfl ?_
      exact ⟨⟨_, rfl⟩, .inl ⟨L, C1, HR.out, HJ3.out⟩⟩
    · obtain ⟨x, s', Xs', hst, G', -⟩ := G.next HS.out hl
      obtain ⟨q1, q2, q3, q4, q5⟩ := G.wants HS.out
      have hlt := (G'.lt HS.out).1
      have HE := Lib.hid (step_any (HT.out wr hB) hWs hst q1 hn (by omega) (by omega) (q4 hl) q5)
      have HR := Lib.hid (Ran.snoc R hst)
      have HWs := Lib.hid hWs.1
      have HC1 := Lib.hid hC1
      have HBr := Lib.hid hB
      have hLx : (L ++ [x]).length = L.length + 1 := by simp
      clear hWs hJL hC1 hB G G' R stab q1 q2 q3 q4 q5 hst
      gi_wp2_with fail
      refine ⟨trivial, fun h => (by simp [Fence.wide] at h), (callsIn_wide.2 HE.out).mono ?_⟩
      rintro e w3 ⟨rfl, S', hWs', hS', hK⟩
      obtain ⟨xl, xc, xo, xn⟩ := x
      have hK4 := hK.alloc (.cells #[.int .u8 xl, .int .i64 xc, .int .i64 xo, .int .i64 xn] 55)
      have hJ4 := HST.out _ hK4
      have hz3 := hK.size
      have bs := Blk.new w3 55 #[.int .u8 xl, .int .i64 xc, .int .i64 xo, .int .i64 xn]
      obtain ⟨fn, tmps, assign, body, hy, hR⟩ := HY.out L ⟨xl, xc, xo, xn⟩ C1 _ hJ4 (by omega)
      have hz4 : (w3.alloc (.cells #[.int .u8 xl, .int .i64 xc, .int .i64 xo, .int .i64 xn] 55)).heap.size = w3.heap.size + 1 := World.size_alloc _ _
      have hWs4 := hWs'.same (w' := w3.alloc (.cells #[.int .u8 xl, .int .i64 xc, .int .i64 xo, .int .i64 xn] 55)) (by omega) (fun j hj => Below.heap_alloc _ _ _ (hWs'.1 j hj).2)
      have hB4 := HBr.out.trans ((hK4.below (fun j hj => by have := (HWs.out j hj).1; omega) hzr))
      have Hz4 := Lib.hid hz4
      have HWs4 := Lib.hid hWs4
      have HWb := Lib.hid hWs'.1
      have HS' := Lib.hid hS'
      have HB4 := Lib.hid hB4
      unfold encS at hy
      dsimp only at hy
      obtain ⟨-, b0, b1, b2, b3, -⟩ := four bs
      clear hWs' hS' hK hK4 hJ4 hWs4 hB4 HE bs hz4
      gi_wp2
      refine ⟨fun h => (by simp [Fence.wide] at h), hR.mono ?_⟩
      rintro e w5 ⟨hK5, C', hC', ⟨rfl, hJ5⟩ | ⟨rfl, hJ5⟩⟩
      · have hz5 := hK5.size
        have hSd : ∀ j, S' j → ¬ C1 j := fun j hj hc1 => by
          have h1 := HC1.out j hc1
          rcases HS'.out j hj with h | h
          · exact h1.2.2 h
          · omega
        have hWs5 := HWs4.out.same hz5 (fun j hj => hK5.block j (HWs4.out.1 j hj).2 (hSd j hj))
        have hB5 := HB4.out.trans (hK5.below (fun j hj => (HC1.out j hj).1) HB4.out.size)
        have HI5 := Lib.hid (show SteI w g n T c b w1.heap.size J (T.length - (L.length + 1)) w5 from ⟨⟨L ++ [⟨xl, xc, xo, xn⟩], s', S', C', HR.out, hWs5, hJ5, fun j hj => by
          rcases hC' j hj with h | h
          · have h1 := HC1.out j h
            exact ⟨h1.1, by have := Hz4.out; omega, fun h2 => hSd j h2 h⟩
          · have := Hz4.out
            have := HB4.out.size
            exact ⟨by omega, h.2, fun h2 => by have := (HWb.out j h2).2; omega⟩, by simp; omega⟩, hB5⟩)
        clear hK5 hC' hJ5 hWs5 hB5 hR hSd
        gi_wp2
        gi_roundg (T.length - (L.length + 1))
        case measure => omega
        case rel => exact HI5.out
      · have HJ5 := Lib.hid hJ5
        clear hJ5 hK5 hC' hR
        gi_wp2
        refine bodyPost_ret (results_none rfl _ _ _) rfl ?_
        exact ⟨⟨_, rfl⟩, .inr ⟨_, C', ⟨s', HR.out⟩, HJ5.out⟩⟩
set_option maxHeartbeats 1000000 in
theorem check_nil (r : Int) (w : World) : Calls Tryz.prog 52 #[.pointer none, .int .i64 r] w fun e w' => e = .returned (.int .i64 1) ∧ Below w.heap.size w w' := by
  go_enter Tryz.func52, Tryz.ntmps52
  go_wp2
  go_ret
  exact ⟨rfl, Below.refl _ _⟩
set_option maxRecDepth 100000 in
set_option maxHeartbeats 1000000 in
/-- Where there is no walk there are no steps. -/
theorem steps_none_sep {w : World} {m Bt Bc : Nat} {a : Option Addr} {r z : Int} (hz : z ≠ 0) (HCk : ∀ W, Below w.heap.size w W → Calls Tryz.prog 52 #[.pointer a, .int .i64 r] W fun e w' => e = .returned (.int .i64 z) ∧ Below W.heap.size W w') :
    SeqSep Fence.wide m Tryz.prog 58 #[.pointer (some ⟨Bt, 0, none⟩), .pointer (some ⟨Bc, 0, none⟩)] encS (fun xs => xs = []) (fun _ => False) 0 w (fun _ => False) (fun W => W.cell? ⟨Bt, 0, none⟩ = some (.pointer a) ∧ W.cell? ⟨Bc, 0, none⟩ = some (.int .i64 r) ∧ Bt < W.heap.size ∧ Bc < W.heap.size) := by
  rintro l J Jx W C hW ⟨t0, c0, lt, lc⟩ - hJ hJx hY h0 hC
  have HC := Lib.hid (HCk W hW)
  have HJ := Lib.hid (fun (W' : World) (hb : Below W.heap.size W W') => hJ _ _ _ _ h0 (hb.mono hW.size) (fun j hj => hb.block j (hC j hj).2.1))
  have nz : (z == 0) = false := by simpa using hz
  clear HCk hJ hJx hY h0 hC hW hz
  refine callsIn_of_wp Tryz.func58 rfl trivial ?_ rfl
  simp only [Tryz.ntmps58, List.size_toArray, List.length_cons, List.length_nil, Nat.reduceAdd, Nat.reduceSub, Array.replicate_succ, Array.replicate_zero, List.push_toArray, List.append_toArray, List.nil_append, List.cons_append]
  gi_wp2_with fail
  refine ⟨trivial, fun h => (by simp [Fence.wide] at h), (callsIn_wide.2 HC.out).mono ?_⟩
  rintro e w1 ⟨rfl, hb1⟩
  gi_wp2
  refine bodyPost_ret (results_none rfl _ _ _) rfl ?_
  exact ⟨⟨_, rfl⟩, .inl ⟨_, C, rfl, HJ.out _ hb1⟩⟩
end Go.Proofs.YtghlnknncahkgaaGreat
/-
  A region that draws its order, by a state that every operation keeps: each operation is looked at once, whatever the order.
-/
namespace Go.Proofs.YtghlnknncahkgaaGreat
open Go.RowKit

theorem countP_lt {p q : Nat → Bool} : ∀ {l : List Nat}, (∀ j, q j = true → p j = true) → ∀ i, i ∈ l → p i = true → q i = false → l.countP q < l.countP p
  | [], _, _, h, _, _ => (List.not_mem_nil h).elim
  | x :: l, hs, i, h, h1, h2 => by
    have hle : l.countP q ≤ l.countP p := List.countP_mono_left (fun j _ hj => hs j hj)
    rcases List.mem_cons.1 h with rfl | h
    · rw [List.countP_cons_of_neg (by rw [h2]; decide), List.countP_cons_of_pos h1]
      omega
    · have ih := countP_lt hs i h h1 h2
      rw [List.countP_cons, List.countP_cons]
      have : (if q x = true then 1 else 0) ≤ (if p x = true then 1 else 0) := by
        by_cases hq : q x = true
        · rw [if_pos hq, if_pos (hs x hq)]
          exact Nat.le_refl _
        · rw [if_neg hq]
          exact Nat.zero_le _
      omega
theorem all_listed {md : Region.Mode} {ops : Array Oper} {listed : Array Bool} (hord : ∀ (i : Nat) (o : Oper), ops[i]? = some o → ∀ e ∈ o.after, e.on < i) (hs : listed.size = ops.size) (hr : Region.ready md ops listed = []) : ∀ i, i < ops.size → listed.getD i false = true := by
  intro i
  induction i using Nat.strongRecOn with
  | _ i ih =>
    intro hi
    by_cases hl : listed.getD i true = false
    · have ho : ops[i]? = some ops[i] := Array.getElem?_eq_getElem hi
      have : i ∈ Region.ready md ops listed := mem_ready.2 ⟨hl, _, ho, fun e he _ => ih e.on (hord i _ ho e he) (by have := hord i _ ho e he; omega)⟩
      rw [hr] at this
      exact (List.not_mem_nil this).elim
    · have hi' : i < listed.size := by omega
      rw [Array.getD_eq_getD_getElem?, Array.getElem?_eq_getElem hi'] at hl ⊢
      simpa using hl
/-- The law. -/
theorem wpAnyIn_state {F : Fence} {n : Nat} {P : Program} {md : Region.Mode} {ops : Array Oper} {Q : Exit → Act → World → Prop} {I : Array Bool → Act → World → Prop} (hord : ∀ (i : Nat) (o : Oper), ops[i]? = some o → ∀ e ∈ o.after, e.on < i)
    (step : ∀ (i : Nat) (o : Oper) (listed : Array Bool) (a : Act) (w : World), ops[i]? = some o → listed.size = ops.size → listed.getD i true = false → (∀ e ∈ o.after, Region.binds md e = true → listed.getD e.on false = true) → I listed a w →
      ∀ K : Act → World → Prop, (∀ a' w', I (listed.setIfInBounds i true) a' w' → K a' w') → if Region.wanted o (yielded ops a.tmps) = true then o.wpIn F n P a w K Q else ((∀ f, o.about P w a.eval = some f → F.fn f) ∧ K (a.put o.dst undef) w))
    (done : ∀ (listed : Array Bool) (a : Act) (w : World), (∀ i, i < ops.size → listed.getD i false = true) → I listed a w → Q .normal a w) :
    ∀ (fuel : Nat) (listed : Array Bool) (a : Act) (w : World), listed.size = ops.size → (List.range ops.size).countP (fun i => !listed.getD i true) ≤ fuel → I listed a w → wpAnyIn F n P md ops Q fuel listed a w
  | 0, listed, a, w, hs, hc, hI => by
    have hr : Region.ready md ops listed = [] := by
      apply List.eq_nil_iff_forall_not_mem.2
      intro i hi
      obtain ⟨h1, o, ho, -⟩ := mem_ready.1 hi
      have hi' : i < ops.size := (Array.getElem?_eq_some_iff.1 ho).1
      have := List.countP_pos_iff (p := fun i => !listed.getD i true).2 ⟨i, List.mem_range.2 hi', by simp only [h1]; rfl⟩
      omega
    exact ⟨hr, done _ _ _ (all_listed hord hs hr) hI⟩
  | fuel + 1, listed, a, w, hs, hc, hI => by
    refine ⟨fun hr => done _ _ _ (all_listed hord hs hr) hI, fun i hi => ?_⟩
    obtain ⟨h1, o, ho, hd⟩ := mem_ready.1 hi
    have hi' : i < ops.size := (Array.getElem?_eq_some_iff.1 ho).1
    have hs' : (listed.setIfInBounds i true).size = ops.size := by rw [Array.size_setIfInBounds]; exact hs
    have hlt : (List.range ops.size).countP (fun j => !(listed.setIfInBounds i true).getD j true) < (List.range ops.size).countP (fun j => !listed.getD j true) :=
      countP_lt (fun j hj => by
        by_cases hij : i = j
        · subst hij
          simp [Array.getD_eq_getD_getElem?, hs, hi'] at hj
        · rw [getD_set_ne true hij] at hj
          exact hj) i (List.mem_range.2 hi') (by rw [h1]; rfl) (by simp [Array.getD_eq_getD_getElem?, hs, hi'])
    unfold wpOpIn
    rw [ho]
    exact step i o listed a w ho hs h1 hd hI _ (fun a' w' h => wpAnyIn_state hord step done fuel _ a' w' hs' (by omega) h)
theorem wpIn_region_state {F : Fence} {n : Nat} {P : Program} {id : Nat} {ops : Array Oper} {Q : Exit → Act → World → Prop} {a : Act} {w : World} (hm : P.follows .mixedOrders = true) (I : Array Bool → Act → World → Prop) (hord : ∀ (i : Nat) (o : Oper), ops[i]? = some o → ∀ e ∈ o.after, e.on < i)
    (h0 : I (Array.replicate ops.size false) a w.drew)
    (step : ∀ (i : Nat) (o : Oper) (listed : Array Bool) (a : Act) (w : World), ops[i]? = some o → listed.size = ops.size → listed.getD i true = false → (∀ e ∈ o.after, Region.binds .any e = true → listed.getD e.on false = true) → I listed a w →
      ∀ K : Act → World → Prop, (∀ a' w', I (listed.setIfInBounds i true) a' w' → K a' w') → if Region.wanted o (yielded ops a.tmps) = true then o.wpIn F n P a w K Q else ((∀ f, o.about P w a.eval = some f → F.fn f) ∧ K (a.put o.dst undef) w))
    (done : ∀ (listed : Array Bool) (a : Act) (w : World), (∀ i, i < ops.size → listed.getD i false = true) → I listed a w → Q .normal a w) : (Code.region id ops true).wpIn F n P Q a w := by
  refine wpIn_region_any hm (wpAnyIn_state hord step done ops.size _ _ _ (by simp) ?_ h0)
  have := List.countP_le_length (p := fun i => !(Array.replicate ops.size false).getD i true) (l := List.range ops.size)
  rwa [List.length_range] at this
end Go.Proofs.YtghlnknncahkgaaGreat
