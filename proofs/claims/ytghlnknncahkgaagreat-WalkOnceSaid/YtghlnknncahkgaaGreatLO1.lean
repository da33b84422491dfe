/-
  gypsumlaw21.WalkOnce returns true, by walking its text.
-/
import Derived.Test.YtghlnknncahkgaaGreatK14
import Derived.Test.YtghlnknncahkgaaGreatK2
import Derived.Test.YtghlnknncahkgaaGreatK4
namespace Go.Proofs.YtghlnknncahkgaaGreat
open Go.RowKit Go.Maps Go.Shelf

theorem zero_bool9 (w : World) : (zeroValue 4).run Tryz.prog w = .ok (.bool false) w := by kernel_rfl
theorem wfI {x : Int} (h : 0 ≤ x ∧ x ≤ 1000000) : (Lit.int .i64 x).wf = true := WalkArith.wf_i64 (by omega)
set_option maxRecDepth 100000 in
set_option maxHeartbeats 8000000 in
theorem walkOnce_walk (N : Int) (v : Value) (T : List Tr) (r : Int) (w : World) (h : TrisRd w v T) (hr : 0 ≤ r ∧ r ≤ 255) :
    Calls Tryz.prog 7 #[.agg #[.int .i64 N, v], .int .u8 r] w fun e w' => e = .returned (.bool true) ∧ Below w.heap.size w w' := by
  have b1 := Blk.new w 24 #[.int .i64 N, v]
  have hB0 : Below w.heap.size w (w.alloc (.cells #[.int .i64 N, v] 24)) := (Below.refl _ _).alloc (Nat.le_refl _) _
  have HS := Lib.hid (simpleL_any N v T r _ (h.below hB0) hr)
  have HA := Lib.hid awake21_any
  obtain ⟨a, c, rfl, -, -, -⟩ := h
  have HB0 := Lib.hid hB0
  have Hb1 := Lib.hid b1
  obtain ⟨l0, x0, -, x1, -⟩ := b1.two
  clear b1 hB0
  have hmm := @run_makeMap Tryz.prog
  go_enter Tryz.func7, Tryz.ntmps7
  go_wp2_with fail
  refine HS.out.mono ?_
  rintro e w1 ⟨p, cz, b, rfl, hfit, hb1⟩
  have HS1 := Lib.hid (Hb1.out.below hb1 l0)
  have HB1 := Lib.hid (HB0.out.trans (hb1.mono HB0.out.size))
  clear x0 x1 l0 hb1
  cases b
  · clear hfit
    go_wp2_with fail
    refine (HA.out _).mono ?_
    rintro e w2 ⟨rfl, hb2⟩
    have HB2 := Lib.hid (HB1.out.trans (hb2.mono HB1.out.size))
    clear hb2
    go_wp2_with fail
    refine (HA.out _).mono ?_
    rintro e w3 ⟨rfl, hb3⟩
    have HB3 := Lib.hid (HB2.out.trans (hb3.mono HB2.out.size))
    clear hb3
    go_wp2
    go_ret
    exact ⟨rfl, HB3.out⟩
  · obtain ⟨g, n, k, rfl, rfl, rfl, hT, hSi, hl, hk⟩ := hfit rfl
    have HSi := Lib.hid hSi
    have HT1 := Lib.hid hT
    have HK := Lib.hid hk
    clear hfit hT hSi hk
    go_wp2_with fail
    refine (HA.out _).mono ?_
    rintro e w2 ⟨rfl, hb2⟩
    have HB2 := Lib.hid (HB1.out.trans (hb2.mono HB1.out.size))
    have HS2 := Lib.hid (HS1.out.below hb2 HS1.out.lt)
    have HT2 := Lib.hid (HT1.out.below hb2)
    clear hb2
    have HW := Lib.hid (walk_any HSi.out HT2.out HK.out)
    go_wp2_with fail
    refine HW.out.mono ?_
    rintro e w3 ⟨vV, vC, rfl, hV, hC, hb3⟩
    have HB3 := Lib.hid (HB2.out.trans (hb3.mono HB2.out.size))
    have HS3 := Lib.hid (HS2.out.below hb3 HS2.out.lt)
    have HT3 := Lib.hid (HT2.out.below hb3)
    have hVl : ((beginS T k).come ++ newV T (stepsM T k)).length = n := walkV_len HSi.out HK.out
    have hWl : (stepsM T k).length + 1 = T.length := walk_len HSi.out HK.out
    have hwl : (wordS (stepsM T k)).size = (stepsM T k).length := by simp [wordS, ByteArray.size]
    have hpos := HSi.out.pos
    have hn3 := HSi.out.euler
    rw [hVl] at hV
    have hCl : (stepsM T k).length.succ = T.length := hWl
    rw [hCl] at hC
    obtain ⟨gV, cV, rfl, -, -⟩ := hV.form (by omega)
    obtain ⟨gC, cC, rfl, -, -⟩ := hC.form (by omega)
    have HV := Lib.hid (show w3.ownsRow w2.heap.size 3 1 (.slice (some ⟨gV, 0, none⟩) n cV) n (intsV (walkV T k)) from hV)
    have HC := Lib.hid (show w3.ownsRow w2.heap.size 3 1 (.slice (some ⟨gC, 0, none⟩) T.length cC) T.length (intsV (walkC T k)) from hC)
    obtain ⟨W, hW⟩ : ∃ W, wordS (stepsM T k) = W := ⟨_, rfl⟩
    rw [hW] at hwl ⊢
    obtain ⟨F, hF⟩ : ∃ F, T.length = F := ⟨_, rfl⟩
    have HFl := Lib.hid hF
    have hwF : W.size + 1 = F := by omega
    have cC0 : w3.cell? ⟨gC, 0, none⟩ = some (.int .i64 k) := by rw [HC.out.cellAt 0 (by omega)]; rfl
    rw [hF] at hl hpos HC HS3 ⊢
    clear hb3 hV hC hVl hWl hwl hCl hW hF hn3 HS1 HS2 HT1 HT2 HB1 HB2 HW
    have bT := Blk.new w3 45 #[.string W, .slice (some ⟨gV, 0, none⟩) n cV, .slice (some ⟨gC, 0, none⟩) F cC]
    obtain ⟨lt0, t0, tf0, t1, tf1, t2, tf2⟩ := bT.three
    obtain ⟨ls, s0, -, s1, -⟩ := (HS3.out.alloc (.cells #[.string W, .slice (some ⟨gV, 0, none⟩) n cV, .slice (some ⟨gC, 0, none⟩) F cC] 45)).two
    have cC1 : (w3.alloc (.cells #[.string W, .slice (some ⟨gV, 0, none⟩) n cV, .slice (some ⟨gC, 0, none⟩) F cC] 45)).cell? ⟨gC, 0, none⟩ = some (.int .i64 k) := by
      rw [(HC.out.alloc _).cellAt 0 (by omega)]; rfl
    have e1 : ((W.size : Int) != (F : Int) - 1) = false := by simp; omega
    go_wp2
    have HX := Lib.hid (fun (Y : World) (hY : Below (w3.alloc (.cells #[.string W, .slice (some ⟨gV, 0, none⟩) n cV, .slice (some ⟨gC, 0, none⟩) F cC] 45)).heap.size (w3.alloc (.cells #[.string W, .slice (some ⟨gV, 0, none⟩) n cV, .slice (some ⟨gC, 0, none⟩) F cC] 45)) Y) =>
      And.intro (bT.below hY bT.lt) (And.intro ((HS3.out.alloc (.cells #[.string W, .slice (some ⟨gV, 0, none⟩) n cV, .slice (some ⟨gC, 0, none⟩) F cC] 45)).below hY ls) (And.intro (own_below9 (HV.out.alloc _) hY) (And.intro (own_below9 (HC.out.alloc _) hY) ((HT3.out.alloc _).below hY)))))
    have HBx := Lib.hid (show Below w.heap.size w (w3.alloc (.cells #[.string W, .slice (some ⟨gV, 0, none⟩) n cV, .slice (some ⟨gC, 0, none⟩) F cC] 45)) from HB3.out.alloc HB3.out.size _)
    have hm1 := (KSet.made (w3.alloc (.cells #[.string W, .slice (some ⟨gV, 0, none⟩) n cV, .slice (some ⟨gC, 0, none⟩) F cC] 45)) Tryz.prog 3).alloc (.map #[] 0)
    have hm2 := KSet.made ((w3.alloc (.cells #[.string W, .slice (some ⟨gV, 0, none⟩) n cV, .slice (some ⟨gC, 0, none⟩) F cC] 45)).alloc (.map #[] 0)) Tryz.prog 3
    rw [size_alloc'] at hm1
    rw [size_alloc', size_alloc'] at hm2
    have hBm : Below (w3.alloc (.cells #[.string W, .slice (some ⟨gV, 0, none⟩) n cV, .slice (some ⟨gC, 0, none⟩) F cC] 45)).heap.size (w3.alloc (.cells #[.string W, .slice (some ⟨gV, 0, none⟩) n cV, .slice (some ⟨gC, 0, none⟩) F cC] 45)) (((w3.alloc (.cells #[.string W, .slice (some ⟨gV, 0, none⟩) n cV, .slice (some ⟨gC, 0, none⟩) F cC] 45)).alloc (.map #[] 0)).alloc (.map #[] 0)) := ((Below.refl _ _).alloc (Nat.le_refl _) _).alloc (by simp) _
    have hz4 : (w3.alloc (.cells #[.string W, .slice (some ⟨gV, 0, none⟩) n cV, .slice (some ⟨gC, 0, none⟩) F cC] 45)).heap.size = w3.heap.size + 1 := by simp
    have HZ4 := Lib.hid hz4
    have HM1 := Lib.hid hm1
    have HM2 := Lib.hid hm2
    have HBm := Lib.hid hBm
    clear hm1 hm2 hBm hz4 bT t0 tf0 t1 tf1 t2 tf2 lt0 s0 s1 ls cC1 e1 cC0 hmm
    generalize (w3.alloc (.cells #[.string W, .slice (some ⟨gV, 0, none⟩) n cV, .slice (some ⟨gC, 0, none⟩) F cC] 45)) = w4 at *
    generalize (w4.alloc (.map #[] 0)).alloc (.map #[] 0) = w5 at *
    go_loopw [78] (fun i Y => ∃ j : Nat, j ≤ n ∧ i = .int .i64 j ∧ KSet Tryz.prog 3 Y (w3.heap.size + 1) (intsV ((walkV T k).take j)) ∧ KSet Tryz.prog 3 Y (w3.heap.size + 1 + 1) [] ∧ Below w4.heap.size w4 Y) (fun i _ => n - (intOf i).toNat)
    case atStart => exact ⟨0, Nat.zero_le _, rfl, HM1.out, HM2.out, HBm.out⟩
    case round =>
      obtain ⟨j, hj, rfl, hk1, hk2, hB⟩ := hrel
      rename World => wr
      obtain ⟨xT, xS, xV, xC, xT2⟩ := HX.out _ hB
      obtain ⟨lt0, t0, -, t1, -, t2, -⟩ := xT.three
      obtain ⟨ls, s0, -, s1, -⟩ := xS.two
      have HK1 := Lib.hid hk1
      have HK2 := Lib.hid hk2
      have HB := Lib.hid hB
      clear xT xS xC xT2
      by_cases hjn : j < n
      · have hj3 : (j : Int) < (n : Int) := by omega
        have Hjn := Lib.hid hjn
        have hj0 : (0 : Int) ≤ (j : Int) := by omega
        have hvl := walkV_len HSi.out HK.out
        have hjl : j < (walkV T k).length := by omega
        obtain ⟨z, hz⟩ : ∃ z, (walkV T k)[j] = z := ⟨_, rfl⟩
        have hzr := walkV_rng HSi.out HK.out z (by rw [← hz]; exact List.getElem_mem _)
        have cz : wr.cell? ⟨gV, j, none⟩ = some (.int .i64 z) := by
          rw [xV.cellAt j (by omega), intsV, List.getElem?_map, List.getElem?_eq_getElem hjl, hz]
          rfl
        have htk : (walkV T k).take (j + 1) = (walkV T k).take j ++ [z] := by rw [List.take_succ_eq_append_getElem hjl, hz]
        have hnd : z ∉ (walkV T k).take j := by
          have h1 := walkV_nodup HSi.out HK.out
          have h2 := (List.nodup_append.1 (by rw [List.take_append_drop]; exact h1 : ((walkV T k).take (j + 1) ++ (walkV T k).drop (j + 1)).Nodup)).1
          rw [htk] at h2
          exact fun hm => (List.nodup_append.1 h2).2.2 _ hm _ (List.mem_singleton_self _) rfl
        have hni : Value.int .i64 z ∉ intsV ((walkV T k).take j) := fun hm => by
          obtain ⟨y, hy, e⟩ := List.mem_map.1 hm
          cases e
          exact hnd hy
        have hn4 : n ≤ 4096 := by have := HSi.out.surf.n1; omega
        have hkey := keyOf_int_mk (P := Tryz.prog) (k := 3) (q := .i64) Tryz.underlying3 (wfI (x := z) ⟨by omega, by omega⟩)
        obtain ⟨rr, hrun, hiff⟩ := hk1.look (t := 59) (int_keyed Tryz.underlying3) Tryz.underlying59 (zero_bool9 _) hkey
        have hrf : rr = false := by cases rr with
          | false => rfl
          | true => exact absurd (hiff.1 rfl) hni
        subst hrf
        have hz0 : ¬ z < 0 := by omega
        have hz1 : ¬ (n : Int) ≤ z := by omega
        have Htk := Lib.hid htk
        have Hni := Lib.hid hni
        clear hz hzr htk hnd hni hiff hk1 hk2 hB xV hjl hvl
        go_wp2_with (at_mapUpdate; refine wpList_storeK HK1.out rfl _ _ _ 59 (.inl rfl) (int_keyed Tryz.underlying3) Tryz.underlying59 rfl (.int .i64 z) rfl rfl hkey Hni.out ?_; intro w6 hk6 hg6 hs6)
        go_roundw
        case measure => have := Hjn.out; simp [intOf]; omega
        case rel => exact ⟨j + 1, by have := Hjn.out; omega, by go_num, by rw [Htk.out]; simpa [intsV] using hk6, HK2.out.kept hg6 (by simp), HB.out.grown hg6 HB.out.size (fun q e => by cases e; rw [HZ4.out]; exact Nat.le_refl _)⟩
      · obtain rfl : j = n := by omega
        clear hk1 hk2 hB xV
        go_wp2
        go_loopw [101] (fun i Y => ∃ j : Nat, j ≤ F ∧ i = .int .i64 j ∧ KSet Tryz.prog 3 Y (w3.heap.size + 1 + 1) (intsV (((walkC T k).take j).map fun x => ((x.toNat / 3 : Nat) : Int))) ∧ Below w4.heap.size w4 Y) (fun i _ => F - (intOf i).toNat)
        case atStart => exact ⟨0, Nat.zero_le _, rfl, HK2.out, HB.out⟩
        case round =>
          clear t0 t1 t2 s0 s1 lt0 ls HK1 HK2 HB
          obtain ⟨q, hq, rfl, hk2, hB⟩ := hrel
          rename World => wr2
          obtain ⟨xT, xS, xV, xC, xT2⟩ := HX.out _ hB
          obtain ⟨lt0, t0, -, t1, -, t2, -⟩ := xT.three
          obtain ⟨ls, s0, -, s1, -⟩ := xS.two
          have HK2 := Lib.hid hk2
          have HB := Lib.hid hB
          have HTt := Lib.hid xT2
          clear xT xV xT2
          by_cases hqF : q < F
          · have hq3 : (q : Int) < (F : Int) := by omega
            have hq0 : (0 : Int) ≤ (q : Int) := by omega
            obtain ⟨d, hd, hdl, hnew, hold⟩ := walkC_at HSi.out HK.out (i := q) (by rw [HFl.out]; exact hqF)
            rw [HFl.out] at hdl
            have cz : wr2.cell? ⟨gC, q, none⟩ = some (.int .i64 d) := by
              rw [xC.cellAt q (by omega), intsV, List.getElem?_map, hd]
              rfl
            have htk : (walkC T k).take (q + 1) = (walkC T k).take q ++ [(d : Int)] := by
              obtain ⟨h1, h2⟩ := List.getElem?_eq_some_iff.1 hd
              rw [List.take_succ_eq_append_getElem h1, h2]
            have memi : ∀ m : Nat, Value.int .i64 (m : Int) ∈ intsV (((walkC T k).take q).map fun x => ((x.toNat / 3 : Nat) : Int)) ↔ m ∈ ((walkC T k).take q).map (fun x => x.toNat / 3) := fun m => by
              simp only [intsV, List.mem_map]
              constructor
              · rintro ⟨y, ⟨u, hu, rfl⟩, e⟩
                refine ⟨u, hu, ?_⟩
                injection e with _ e
                omega
              · rintro ⟨u, hu, rfl⟩
                exact ⟨_, ⟨u, hu, rfl⟩, rfl⟩
            have hkey := keyOf_int_mk (P := Tryz.prog) (k := 3) (q := .i64) Tryz.underlying3 (wfI (x := ((d / 3 : Nat) : Int)) ⟨by omega, by omega⟩)
            obtain ⟨rr, hrun, hiff⟩ := hk2.look (t := 59) (int_keyed Tryz.underlying3) Tryz.underlying59 (zero_bool9 _) hkey
            have hrf : rr = false := by cases rr with
              | false => rfl
              | true => exact absurd ((memi _).1 (hiff.1 rfl)) hnew
            subst hrf
            have hdv : ((d : Int)).tdiv 3 = (d : Int) / 3 := Int.tdiv_eq_ediv_of_nonneg (by omega)
            have hdc : ((d / 3 : Nat) : Int) = (d : Int) / 3 := by push_cast; rfl
            rw [hdc] at hkey hrun
            have Hdc := Lib.hid hdc
            have hz0 : ¬ (d : Int) < 0 := by omega
            have hz1 : ¬ (3 * (F : Int)) ≤ (d : Int) := by omega
            have Htk := Lib.hid htk
            have Hni := Lib.hid (show Value.int .i64 ((d : Int) / 3) ∉ intsV (((walkC T k).take q).map fun x => ((x.toNat / 3 : Nat) : Int)) from fun hm => hnew ((memi _).1 (by rw [hdc]; exact hm)))
            have Hold := Lib.hid hold
            have Hmem := Lib.hid memi
            have Hdl := Lib.hid (show d < 3 * T.length by rw [HFl.out]; exact hdl)
            clear hd htk hnew hold memi hiff hk2 hB xC hdc
            by_cases hq1 : q = 0
            · subst hq1
              go_wp2_with (at_mapUpdate; refine wpList_storeK HK2.out rfl _ _ _ 59 (.inl rfl) (int_keyed Tryz.underlying3) Tryz.underlying59 rfl (.int .i64 ((d : Int) / 3)) rfl rfl hkey Hni.out ?_; intro w6 hk6 hg6 hs6)
              go_roundw
              case measure => simp [intOf]; omega
              case rel => exact ⟨1, by omega, by go_num, by have e := Htk.out; rw [show (0 + 1 : Nat) = 1 from rfl] at e; rw [e]; simpa [intsV, Hdc.out] using hk6, HB.out.grown hg6 HB.out.size (fun q e => by cases e; rw [HZ4.out]; omega)⟩
            · have hq4 : (0 : Int) < (q : Int) := by omega
              have HO := Lib.hid (opp_any g _ (d : Int) T wr2 HTt.out)
              go_wp2_with fail
              refine HO.out.mono ?_
              rintro e w6 ⟨rfl, hb6⟩
              have hop := HSi.out.closed.opp Hdl.out
              rw [hop]
              have hol := (opp_some Hdl.out hop).1
              obtain ⟨o, ho⟩ : ∃ o, oppN T d = o := ⟨_, rfl⟩
              rw [ho] at hol ⊢
              have hol2 : (o : Int) < 3 * (F : Int) := by have := HFl.out; omega
              have HK6 := Lib.hid (HK2.out.same (hb6.block _ HK2.out.lt))
              have hkeyo := keyOf_int_mk (P := Tryz.prog) (k := 3) (q := .i64) Tryz.underlying3 (wfI (x := ((o / 3 : Nat) : Int)) ⟨by omega, by have := HFl.out; omega⟩)
              obtain ⟨rr, hrun2, hiff⟩ := HK6.out.look (t := 59) (int_keyed Tryz.underlying3) Tryz.underlying59 (zero_bool9 _) hkeyo
              have hrt : rr = true := hiff.2 ((Hmem.out _).2 (by rw [← ho]; exact Hold.out (by omega)))
              subst hrt
              have hov : ((o : Int)).tdiv 3 = (o : Int) / 3 := Int.tdiv_eq_ediv_of_nonneg (by omega)
              have hoc : ((o / 3 : Nat) : Int) = (o : Int) / 3 := by push_cast; rfl
              rw [hoc] at hrun2
              have HB6 := Lib.hid (HB.out.trans (hb6.mono HB.out.size))
              clear hb6 hop hiff hrun hoc hkeyo t0 t1 t2 s0 s1 lt0 ls cz
              go_wp2_with (at_mapUpdate; refine wpList_storeK HK6.out rfl _ _ _ 59 (.inl rfl) (int_keyed Tryz.underlying3) Tryz.underlying59 rfl (.int .i64 ((d : Int) / 3)) rfl rfl hkey Hni.out ?_; intro w7 hk7 hg7 hs7)
              go_roundw
              case measure => simp [intOf]; omega
              case rel => exact ⟨q + 1, by omega, by go_num, by rw [Htk.out]; simpa [intsV, Hdc.out] using hk7, HB6.out.grown hg7 HB6.out.size (fun q e => by cases e; rw [HZ4.out]; omega)⟩
          · obtain rfl : q = F := by omega
            clear hk2 hB xC
            go_wp2
            go_ret
            exact ⟨rfl, HBx.out.trans (HB.out.mono HBx.out.size)⟩
end Go.Proofs.YtghlnknncahkgaaGreat
