/-
  Texts joined by program, what the law uses alone: Join FoS From ApR Form CFm.
-/
import Derived.Deep.DeepCutAuto
import Derived.Deep.RegionHeld3
import Derived.Deep.AppendLies
import Derived.Deep.Upon
import Derived.Deep.QuietTactic
import Derived.BigQuiet
import Derived.Test.YtpnkhgjjlionnaaE4
import Derived.Test.YtpnkhgjjlionnaaE5
import Derived.Test.YtpnkhgjjlionnaaE1
import Derived.Test.YtpnkhgjjlionnaaE3
namespace Go.Proofs.Ytpnkhgjjlionnaa
open Go.RowKit Go.Maps

theorem infoTriJ : (Try.prog.info? 61).map (fun i => (i.zero, i.size, i.bytes)) = some (some (.agg #[.int .i64 0, .int .i64 0, .int .i64 0]), 3, 24) := by kernel_rfl
/-- Soups that can be read. -/
def SoupsRd (w : World) (v : Value) (l : List (Int × List Tr)) : Prop := ∃ a c, v = .slice a l.length c ∧ ∀ (k : Nat) (N : Int) (T : List Tr), l[k]? = some (N, T) → ∃ b o vT, a = some ⟨b, o, none⟩ ∧ b < w.heap.size ∧ w.cell? ⟨b, o + k * 2, none⟩ = some (.int .i64 N) ∧ w.cell? ⟨b, o + k * 2 + 1, none⟩ = some vT ∧ TrisRd w vT T
theorem SoupsRd.below {w w' : World} {v : Value} {l : List (Int × List Tr)} (h : SoupsRd w v l) (hb : Below w.heap.size w w') : SoupsRd w' v l := by
  obtain ⟨a, c, rfl, h3⟩ := h
  refine ⟨a, c, rfl, fun k N T hk => ?_⟩
  obtain ⟨b, o, vT, rfl, hl, s0, s1, s2⟩ := h3 k N T hk
  exact ⟨b, o, vT, rfl, Nat.lt_of_lt_of_le hl hb.size, (hb.cell (p := ⟨b, _, none⟩) hl).trans s0, (hb.cell (p := ⟨b, _, none⟩) hl).trans s1, s2.below hb⟩
structure JnSt (w W : World) (b2 b4 : Nat) (N : Int) (T : List Tr) (vT : Value) : Prop where
  k2 : Blk W b2 24 #[.int .i64 0, .slice none 0 0]
  k4 : Blk W b4 24 #[.int .i64 N, vT]
  rT : W.ownsRow w.heap.size 61 3 vT T.length (ws3 T)
  bel : Below w.heap.size w W
  l2 : w.heap.size ≤ b2
  l4 : w.heap.size ≤ b4
  ne : b2 ≠ b4
section
variable {w W W' w4 : World} {b2 b4 : Nat} {N N' : Int} {T : List Tr} {vT : Value}
theorem JnSt.below (h : JnSt w W b2 b4 N T vT) (hb : Below W.heap.size W W') : JnSt w W' b2 b4 N T vT :=
  ⟨h.k2.below hb h.k2.lt, h.k4.below hb h.k4.lt, own_below h.rT hb, h.bel.trans (hb.mono h.bel.size), h.l2, h.l4, h.ne⟩
theorem JnSt.alloc (h : JnSt w W b2 b4 N T vT) (o : Obj) : JnSt w (W.alloc o) b2 b4 N T vT := h.below ((Below.refl _ _).alloc (Nat.le_refl _) _)
theorem JnSt.app (h : JnSt w W b2 b4 N T vT) (hg : W.grownBy w4 vT.ownBlock) {v4 : Value} {T4 : List Tr} (hr : w4.ownsRow w.heap.size 61 3 v4 T4.length (ws3 T4)) :
    Blk w4 b4 24 #[.int .i64 N, vT] ∧ JnSt w (w4.setCell ⟨b4, 1, none⟩ v4) b2 b4 N T4 v4 := by
  have c4 := h.k4.grown hg (fun e => own_blk_ne h.rT h.k4 (by decide) e.symm)
  have c2 := h.k2.grown hg (fun e => own_blk_ne h.rT h.k2 (by decide) e.symm)
  have hS : w4.grownBy (w4.setCell ⟨b4, 1, none⟩ v4) (some b4) := gStR (World.grownBy.refl _ _)
  exact ⟨c4, ⟨c2.far (p := ⟨b4, 1, none⟩) h.ne v4, by simpa using c4.set_ 1 v4, hr.kept hS (.inr (own_blk_ne hr c4 (by decide))), (h.bel.grown hg h.bel.size (fun j e => (h.rT.lt j e).1)).setCell h.l4 _, h.l2, h.l4, h.ne⟩⟩
theorem JnSt.setN (h : JnSt w W b2 b4 N T vT) : JnSt w (W.setCell ⟨b4, 0, none⟩ (.int .i64 N')) b2 b4 N' T vT :=
  ⟨h.k2.far (p := ⟨b4, 0, none⟩) h.ne _, by simpa using h.k4.set_ 0 (.int .i64 N'), own_alloc_st h.rT h.k4 (by decide), h.bel.setCell h.l4 _, h.l2, h.l4, h.ne⟩
end
theorem fitsS_n {N : Int} {T : List Tr} (h : fitsS N T = true) : 0 ≤ N ∧ N ≤ 4096 ∧ T.length ≤ 8192 := by
  unfold fitsS at h
  rw [Bool.and_eq_true] at h
  exact of_decide_eq_true h.1
theorem fitsS_t {N : Int} {T : List Tr} (h : fitsS N T = true) : ∀ t ∈ T, fitsM t N := by
  unfold fitsS at h
  rw [Bool.and_eq_true, Bool.not_eq_true', List.any_eq_false] at h
  intro t ht
  have := h.2 t ht
  simpa using this
set_option maxRecDepth 100000 in
set_option maxHeartbeats 4000000 in
theorem join_any (v : Value) (l : List (Int × List Tr)) (w : World) (hv : SoupsRd w v l) (hl : l.length ≤ 100000) (hfit : ∀ x ∈ l, fitsS x.1 x.2 = true) (h1 : (joinM l).1 ≤ 4096) (h2 : (joinM l).2.length ≤ 8192) :
    Calls Try.prog 10 #[v] w fun e w' => ∃ vT, e = .returned (.tuple #[.agg #[.int .i64 (joinM l).1, vT], .int .i64 0]) ∧ w'.ownsRow w.heap.size 61 3 vT (joinM l).2.length (ws3 (joinM l).2) ∧ Below w.heap.size w w' := by
  have HV := Lib.hid (fun (W : World) (hW : Below w.heap.size w W) => hv.below hW)
  have HV0 := Lib.hid hv
  obtain ⟨aL, cL, rfl, hrd⟩ := hv
  obtain ⟨n, hn⟩ : ∃ n, l.length = n := ⟨_, rfl⟩
  obtain ⟨i0, hi, hz0, hz1, hz2⟩ := info_parts infoTriJ
  have HFt := Lib.hid (fun (k : Nat) (N : Int) (T : List Tr) (hk : l[k]? = some (N, T)) => hfit _ (List.mem_of_getElem? hk))
  have HBd := Lib.hid (fun k => joinM_bd (l := l) (fun x hx => (fitsS_n (hfit x hx)).1) k)
  have HNn := Lib.hid (fun k => joinM_nn (l := l.take k) (fun x hx => (fitsS_n (hfit x (List.mem_of_mem_take hx))).1))
  have hI0 : JnSt w ((w.alloc (.cells #[.int .i64 0, .slice none 0 0] 24)).alloc (.cells #[.int .i64 0, .slice none 0 0] 24)) w.heap.size (w.heap.size + 1) 0 [] (.slice none 0 0) :=
    ⟨(Blk.new w _ _).alloc _, blk_new_at (by simp), World.ownsRow_nil _ _ _ _, ((Below.refl _ _).alloc (Nat.le_refl _) _).alloc (by simp) _, Nat.le_refl _, by omega, by omega⟩
  have HI0 := Lib.hid hI0
  have Hn := Lib.hid hn
  rw [hn] at hl ⊢
  clear hI0 hrd hfit hn
  go_enter Try.func10, Try.ntmps10
  go_wp2
  go_loopw [13] (fun i wr => ∃ k : Nat, k ≤ n ∧ i = .int .i64 k ∧ JnSt w wr w.heap.size (w.heap.size + 1) 0 [] (.slice none 0 0)) (fun i _ => n - (intOf i).toNat)
  case atStart => exact ⟨0, Nat.zero_le _, rfl, HI0.out⟩
  case round =>
    rename World => wr
    obtain ⟨k, hk, rfl, hI⟩ := hrel
    by_cases hlt : k < n
    · have hkl : k < l.length := by rw [Hn.out]; exact hlt
      obtain ⟨⟨N, T⟩, hx⟩ : ∃ x, l[k]? = some x := ⟨l[k], List.getElem?_eq_getElem hkl⟩
      have hv := HV.out wr hI.bel
      obtain ⟨a', c', e', hr⟩ := hv
      rw [Hn.out] at e'
      cases e'
      obtain ⟨b, o, vT, rfl, hb, s0, s1, hT⟩ := hr k N T hx
      have hf := HFt.out k N T hx
      have HTr := Lib.hid (fun (W : World) (hW : Below wr.heap.size wr W) => (soupFits_any N vT T W (hT.below hW) (by have := fitsS_n hf; omega)).mono (fun e w' h => by rw [hf] at h; exact h))
      obtain ⟨aT, cT, rfl, -⟩ := id hT
      have HI := Lib.hid hI
      have hki : (k : Int) < (n : Int) := by omega
      have HBa := Lib.hid ((Below.refl wr.heap.size wr).alloc (Nat.le_refl _) (.cells #[.int .i64 N, .slice aT T.length cT] 24))
      clear hI hT hr hf hx hkl
      go_upto_region 7 with (go_at_call 29; go_loud (refine (HTr.out _ HBa.out).mono ?_; rintro e wF ⟨rfl, hbF⟩))
      have HI' := Lib.hid ((HI.out.alloc (.cells #[.int .i64 N, .slice aT T.length cT] 24)).below hbF)
      clear hbF
      go_wp2
      go_roundw
      case measure => simp [intOf]; omega
      case rel => exact ⟨k + 1, by omega, by go_num, HI'.out⟩
    · obtain rfl : n = k := by omega
      have HI1 := Lib.hid hI
      clear hI
      go_wp2
      go_loopw [24] (fun i wr => ∃ k : Nat, k ≤ n ∧ i = .int .i64 k ∧ ∃ vT, JnSt w wr w.heap.size (w.heap.size + 1) (joinM (l.take k)).1 (joinM (l.take k)).2 vT) (fun i _ => n - (intOf i).toNat)
      case atStart => exact ⟨0, Nat.zero_le _, rfl, _, HI1.out⟩
      case round =>
        rename World => wr
        obtain ⟨k, hk, rfl, vS, hI⟩ := hrel
        by_cases hlt : k < n
        · have hkl : k < l.length := by rw [Hn.out]; exact hlt
          obtain ⟨⟨N, T⟩, hx⟩ : ∃ x, l[k]? = some x := ⟨l[k], List.getElem?_eq_getElem hkl⟩
          obtain ⟨a', c', e', hr⟩ := HV0.out
          rw [Hn.out] at e'
          cases e'
          obtain ⟨b, o, vT, rfl, hbw, s0w, s1w, hTw⟩ := hr k N T hx
          have s0 := (hI.bel.cell (p := ⟨b, o + k * 2, none⟩) hbw).trans s0w
          have s1 := (hI.bel.cell (p := ⟨b, o + k * 2 + 1, none⟩) hbw).trans s1w
          have HFm := Lib.hid (fitsS_t (HFt.out k N T hx))
          have hb := Nat.lt_of_lt_of_le hbw hI.bel.size
          clear s0w s1w
          have HS1 := Lib.hid (joinM_take hx)
          have hb1 := HBd.out (k + 1)
          have hn1 := HNn.out k
          rw [HS1.out] at hb1
          obtain ⟨SN, hSN⟩ : ∃ SN, (joinM (l.take k)).1 = SN := ⟨_, rfl⟩
          obtain ⟨ST, hST⟩ : ∃ ST, (joinM (l.take k)).2 = ST := ⟨_, rfl⟩
          have hJ : joinS (joinM (l.take k)) (N, T) = (SN + N, ST ++ T.map (shT SN)) := by unfold joinS; rw [hSN, hST]
          rw [hJ] at hb1
          rw [hSN, hST] at hI
          rw [hSN] at hn1
          have HJ := Lib.hid hJ
          have hf := fitsS_n (HFt.out k N T hx)
          obtain ⟨aT, cT, rfl, hcT, hcT2, -⟩ := id hTw
          obtain ⟨aS, cS, rfl⟩ := ownsRow_slice hI.rT
          obtain ⟨nT, hnT⟩ : ∃ nT, T.length = nT := ⟨_, rfl⟩
          obtain ⟨nS, hnS⟩ : ∃ nS, ST.length = nS := ⟨_, rfl⟩
          have hlen : nS + nT ≤ 8192 ∧ SN + N ≤ 4096 := by
            have e1 : (ST ++ T.map (shT SN)).length = nS + nT := by simp [hnS, hnT]
            simp only [e1] at hb1
            omega
          have HRd := Lib.hid (fun (W : World) (hW : Below w.heap.size w W) => hTw.below hW)
          rw [hnT] at s1 HRd hcT
          rw [hnS] at hI
          have d1 : decide (4096 < SN + N) = false := by simp; omega
          have d2 : decide ((8192 : Int) < (nS : Int) + (nT : Int)) = false := by simp; omega
          have HI := Lib.hid hI
          obtain ⟨l4, y0, f0, y1, f1⟩ := hI.k4.two
          have hki : (k : Int) < (n : Int) := by omega
          have HnT := Lib.hid hnT
          have HnS := Lib.hid hnS
          obtain ⟨hle1, hle2⟩ := hlen
          have hN0 := hf.1
          have hzr := hI.bel.size
          have hB : Blk (wr.alloc (.cells #[.int .i64 N, .slice aT nT cT] 24)) wr.heap.size 24 #[.int .i64 N, .slice aT nT cT] := Blk.new _ _ _
          have HB8 := Lib.hid hB
          clear hI hTw hr hx hkl hJ hb1 hf hnT hnS hSN hST hB
          go_upto_region 13 with fail
          have HIa := Lib.hid (HI.out.alloc (.cells #[.int .i64 N, .slice aT nT cT] 24))
          obtain ⟨q, hq⟩ : ∃ q, wr.heap.size = q := ⟨_, rfl⟩
          have hq4 : q ≠ w.heap.size + 1 := by omega
          rw [hq] at HB8 ⊢
          generalize hWa : wr.alloc (.cells #[.int .i64 N, .slice aT nT cT] 24) = wa at *
          clear hWa y0 f0 y1 f1 s0 s1
          obtain ⟨lq, x0, g0, x1, g1⟩ := HB8.out.two
          go_wp2
          clear x0 g0 x1 g1
          go_loopw [48] (fun i wx => ∃ j : Nat, j ≤ nT ∧ i = .int .i64 j ∧ ∃ vS, JnSt w wx w.heap.size (w.heap.size + 1) SN (ST ++ (T.take j).map (shT SN)) vS ∧ Blk wx q 24 #[.int .i64 N, .slice aT nT cT]) (fun i _ => nT - (intOf i).toNat)
          case atStart => exact ⟨0, Nat.zero_le _, rfl, _, by simpa using HIa.out, HB8.out⟩
          case round =>
            rename World => wx
            obtain ⟨j, hj, rfl, vS', hI', hb8⟩ := hrel
            by_cases hlj : j < nT
            · have hjT : j < T.length := by rw [HnT.out]; exact hlj
              obtain ⟨⟨px, py, pz⟩, hp⟩ : ∃ t, T[j]? = some t := ⟨T[j], List.getElem?_eq_getElem hjT⟩
              have hrd := HRd.out wx hI'.bel
              obtain ⟨a', c', e', -, -, hr⟩ := hrd
              rw [HnT.out] at e'
              cases e'
              obtain ⟨bT, oT, rfl, hbT, s0, s1, s2⟩ := hr j px py pz hp
              obtain ⟨⟨p0, p1⟩, ⟨p2, p3⟩, ⟨p4, p5⟩, -⟩ := HFm.out _ (List.mem_of_getElem? hp)
              simp only at p0 p1 p2 p3 p4 p5
              obtain ⟨S9, hS9⟩ : ∃ S9, ST ++ (T.take j).map (shT SN) = S9 := ⟨_, rfl⟩
              have hl9 : S9.length ≤ 8191 := by
                rw [← hS9, List.length_append, List.length_map, List.length_take, HnS.out]
                omega
              have HS9 := Lib.hid (show ST ++ (T.take (j + 1)).map (shT SN) = S9 ++ [(px + SN, py + SN, pz + SN)] from by
                rw [← hS9, List.take_succ_eq_append_getElem hjT, List.map_append, ← List.append_assoc]
                congr 1
                have : T[j] = (px, py, pz) := by rw [List.getElem?_eq_getElem hjT] at hp; exact Option.some.inj hp
                rw [this]
                rfl)
              rw [hS9] at hI'
              have hzx := hI'.bel.size
              obtain ⟨l4', y0, f0, y1, f1⟩ := hI'.k4.two
              have HI' := Lib.hid hI'
              have HB9 := Lib.hid hb8
              have c9 : S9.length + 1 ≤ maxLen := by unfold maxLen; omega
              have c8 : (S9.length + 1) * 24 ≤ 140737488355328 := by omega
              have hlj9 : (j : Int) < (nT : Int) := by omega
              clear hI' hb8 hS9 hr hp hjT
              go_upto_region 17 with (at_builtin; go_loud (refine wpList_append_lies _ rfl (.tmp 53) (.tmp 70) 22 rfl w.heap.size 61 i0 _ 3 24 Try.underlying22 hi hz0 hz1 hz2 rfl (by decide) vS' S9.length (ws3 S9) rfl ((HI'.out.alloc (.cells #[.int .i64 px, .int .i64 py, .int .i64 pz] 61)).alloc (.cells #[.int .i64 (px + SN), .int .i64 (py + SN), .int .i64 (pz + SN)] 61)).rT ⟨wx.heap.size + 1, 0, none⟩ 1 1 [.int .i64 (px + SN), .int .i64 (py + SN), .int .i64 (pz + SN)] rfl rfl (World.news_of_block (blk_new_at (by simp))) (by simp [Value.oneCell']) (by decide) c9 c8 (by simp; omega) (wx.heap.size + 1 + 1) (by simp) ?_); go_loud (intro g8 cap8 W8 hr8 hg8 hat8 hlt8; have h9 := ((HI'.out.alloc (.cells #[.int .i64 px, .int .i64 py, .int .i64 pz] 61)).alloc (.cells #[.int .i64 (px + SN), .int .i64 (py + SN), .int .i64 (pz + SN)] 61)).app hg8 (T4 := S9 ++ [(px + SN, py + SN, pz + SN)]) (v4 := .slice (some ⟨g8, 0, none⟩) (S9.length + 1) cap8) (by rw [ws3_snoc, List.length_append]; exact hr8); have hq8 := ((HB9.out.alloc (.cells #[.int .i64 px, .int .i64 py, .int .i64 pz] 61)).alloc (.cells #[.int .i64 (px + SN), .int .i64 (py + SN), .int .i64 (pz + SN)] 61)).grown hg8 (fun e => own_blk_ne ((HI'.out.alloc (.cells #[.int .i64 px, .int .i64 py, .int .i64 pz] 61)).alloc (.cells #[.int .i64 (px + SN), .int .i64 (py + SN), .int .i64 (pz + SN)] 61)).rT ((HB9.out.alloc _).alloc _) (by decide) e.symm); obtain ⟨lx8, z0, q0, z1, q1⟩ := h9.1.two; have HF8 := Lib.hid h9.2; have HQ8 := Lib.hid (hq8.far (p := ⟨w.heap.size + 1, 1, none⟩) hq4 (.slice (some ⟨g8, 0, none⟩) (S9.length + 1) cap8)); clear hr8 hg8 hat8 hlt8 h9 hq8))
              go_wp2
              go_roundw
              case measure => simp [intOf]; omega
              case rel => exact ⟨j + 1, by omega, by go_num, _, by rw [HS9.out]; exact HF8.out, HQ8.out⟩
            · obtain rfl : j = nT := by omega
              have hI2 := (show JnSt w wx w.heap.size (w.heap.size + 1) SN (ST ++ T.map (shT SN)) vS' from by
                rw [List.take_of_length_le (by rw [HnT.out]; exact Nat.le_refl _)] at hI'
                exact hI')
              have hb2 := hb8
              clear hI' hb8
              obtain ⟨l4', y0, f0, y1, f1⟩ := hI2.k4.two
              obtain ⟨lq', x0', g0', x1', g1'⟩ := hb2.two
              have HI2 := Lib.hid (hI2.setN (N' := SN + N))
              clear hI2 hb2 HIa HB8 HI HRd
              go_wp2
              go_roundw
              case measure => simp [intOf]; omega
              case rel => exact ⟨k + 1, by omega, by go_num, _, by rw [HS1.out, HJ.out]; exact HI2.out⟩
        · obtain rfl : k = n := by omega
          have hI : JnSt w wr w.heap.size (w.heap.size + 1) (joinM l).1 (joinM l).2 vS := by
            rw [List.take_of_length_le (by rw [Hn.out]; exact Nat.le_refl _)] at hI
            exact hI
          obtain ⟨aS, cS, rfl⟩ := ownsRow_slice hI.rT
          have HI := Lib.hid hI
          obtain ⟨l4, y0, f0, y1, f1⟩ := hI.k4.two
          obtain ⟨l2, z0, q0, z1, q1⟩ := hI.k2.two
          have hB2 := (hI.k2.set_ 0 (.int .i64 (joinM l).1)).set_ 1 (.slice aS (joinM l).2.length cS)
          have HF := Lib.hid (And.intro (show Blk _ w.heap.size 24 #[.int .i64 (joinM l).1, .slice aS (joinM l).2.length cS] from by simpa using hB2) (And.intro (own_alloc_st (i := 1) (u := .slice aS (joinM l).2.length cS) (own_alloc_st (i := 0) (u := .int .i64 (joinM l).1) hI.rT hI.k2 (by decide)) (hI.k2.set_ 0 (.int .i64 (joinM l).1)) (by decide)) ((hI.bel.setCell (p := ⟨w.heap.size, 0, none⟩) (Nat.le_refl _) (.int .i64 (joinM l).1)).setCell (p := ⟨w.heap.size, 1, none⟩) (Nat.le_refl _) (.slice aS (joinM l).2.length cS))))
          clear hI hB2
          go_wp2
          obtain ⟨hb2, hr2, hbel⟩ := HF.out
          obtain ⟨-, p0, -, p1, -⟩ := hb2.two
          refine bodyPost_ret (v := .tuple #[.agg #[.int .i64 (joinM l).1, .slice aS (joinM l).2.length cS], .int .i64 0]) (by simp [results, Try.results10, go_sem, p0, p1]) rfl ?_
          exact ⟨_, rfl, hr2, hbel⟩
end Go.Proofs.Ytpnkhgjjlionnaa
namespace Go.Proofs.Ytpnkhgjjlionnaa
open Go.RowKit Go.Sort

def encO : Option RcV → List Value
  | none => [.slice none 0 0, .int .i64 0, .slice none 0 0, .slice none 0 0, .slice none 0 0, .slice none 0 0]
  | some x => x.enc
theorem encO_len (o : Option RcV) : (encO o).length = 6 := by cases o <;> rfl
theorem made_rc (n : Nat) : (madeCells (Value.agg #[.slice none 0 0, .int .i64 0, .slice none 0 0, .slice none 0 0, .slice none 0 0, .slice none 0 0]).cells (n * 6)).toList = (List.replicate n (none : Option RcV)).flatMap encO := by
  apply List.ext_getElem?
  intro j
  by_cases hj : j < n * 6
  · rw [flatMap_at encO_len (by decide) _ j (by simpa using hj)]
    have h3 : j / 6 < n := by omega
    have e : (List.replicate n (none : Option RcV))[j / 6]! = none := by rw [getElem!_pos _ _ (by simpa using h3)]; simp
    rw [e]
    have hz : (Value.agg #[.slice none 0 0, .int .i64 0, .slice none 0 0, .slice none 0 0, .slice none 0 0, .slice none 0 0]).cells = #[.slice none 0 0, .int .i64 0, .slice none 0 0, .slice none 0 0, .slice none 0 0, .slice none 0 0] := rfl
    rw [hz]
    unfold madeCells
    simp only [Array.getElem?_toList, Array.getElem?_map, Array.getElem?_range, hj, if_true, Option.map_some]
    show some (_[j % 6]!) = _
    rcases (by omega : j % 6 = 0 ∨ j % 6 = 1 ∨ j % 6 = 2 ∨ j % 6 = 3 ∨ j % 6 = 4 ∨ j % 6 = 5) with e | e | e | e | e | e <;> rw [e] <;> rfl
  · rw [List.getElem?_eq_none (by rw [Array.length_toList, size_madeCells]; omega), List.getElem?_eq_none (by rw [flatMap_len encO_len]; simp; omega)]
/-- Six cells behind one another are stored. -/
def set6a (w : World) (b i : Nat) (y0 y1 y2 y3 y4 y5 : Value) : World := (((((w.setCell ⟨b, i, none⟩ y0).setCell ⟨b, i + 1, none⟩ y1).setCell ⟨b, i + 2, none⟩ y2).setCell ⟨b, i + 3, none⟩ y3).setCell ⟨b, i + 4, none⟩ y4).setCell ⟨b, i + 5, none⟩ y5
theorem flat_set {xs : List (Option RcV)} {n : Nat} (hn : n < xs.length) (x : RcV) :
    ((((((xs.flatMap encO).set (n * 6) x.vR).set (n * 6 + 1) (.int .i64 x.N)).set (n * 6 + 2) x.vT).set (n * 6 + 3) x.vP).set (n * 6 + 4) x.vK).set (n * 6 + 5) x.vO = (xs.set n (some x)).flatMap encO := by
  obtain ⟨a, ha⟩ : ∃ a, xs[n] = a := ⟨_, rfl⟩
  have e1 : xs = xs.take n ++ a :: xs.drop (n + 1) := by
    rw [← ha, List.getElem_cons_drop, List.take_append_drop]
  have e2 : xs.set n (some x) = xs.take n ++ some x :: xs.drop (n + 1) := by rw [List.set_eq_take_append_cons_drop, if_pos hn]
  have hA : ((xs.take n).flatMap encO).length = n * 6 := by rw [flatMap_len encO_len, List.length_take]; congr 1; omega
  rw [e2]
  conv => lhs; rw [e1]
  simp only [List.flatMap_append, List.flatMap_cons]
  generalize (xs.take n).flatMap encO = A at *
  generalize (xs.drop (n + 1)).flatMap encO = B at *
  obtain ⟨a0, a1, a2, a3, a4, a5, he⟩ : ∃ a0 a1 a2 a3 a4 a5, encO a = [a0, a1, a2, a3, a4, a5] := by
    cases a with
    | none => exact ⟨_, _, _, _, _, _, rfl⟩
    | some y => exact ⟨_, _, _, _, _, _, rfl⟩
  rw [he, ← hA]
  have hx : encO (some x) = [x.vR, .int .i64 x.N, x.vT, x.vP, x.vK, x.vO] := rfl
  rw [hx]
  rw [List.set_append_right _ _ (by omega), List.set_append_right _ _ (by omega), List.set_append_right _ _ (by omega), List.set_append_right _ _ (by omega), List.set_append_right _ _ (by omega), List.set_append_right _ _ (by omega)]
  simp [Nat.add_sub_cancel_left]
theorem blk_set6a {W : World} {b : Nat} {xs : List (Option RcV)} (h : Blk W b 142 (xs.flatMap encO).toArray) {n : Nat} (hn : n < xs.length) (x : RcV) : Blk (set6a W b (n * 6) x.vR (.int .i64 x.N) x.vT x.vP x.vK x.vO) b 142 ((xs.set n (some x)).flatMap encO).toArray := by
  have h2 := (((((h.set_ (n * 6) x.vR).set_ (n * 6 + 1) (.int .i64 x.N)).set_ (n * 6 + 2) x.vT).set_ (n * 6 + 3) x.vP).set_ (n * 6 + 4) x.vK).set_ (n * 6 + 5) x.vO
  rw [← flat_set hn x]
  unfold set6a
  simpa using h2
theorem grown_set6a (W : World) (b i : Nat) (y0 y1 y2 y3 y4 y5 : Value) : W.grownBy (set6a W b i y0 y1 y2 y3 y4 y5) (some b) :=
  gStR (gStR (gStR (gStR (gStR (gStR (World.grownBy.refl _ _))))))
/-- Records, some of them none yet. -/
def BestO (W : World) (base b : Nat) (l : List (Option RecM)) : Prop := ∃ xs : List (Option RcV), xs.map (Option.map (·.m)) = l ∧ (∀ x, some x ∈ xs → RecOwn W base x.enc.toArray x.m) ∧ Blk W b 142 (xs.flatMap encO).toArray
structure StF (w1 W : World) (b : Nat) (vO : Value) (out : List Int) (l : List (Option RecM)) : Prop where
  best : BestO W w1.heap.size b l
  row : W.ownsRow w1.heap.size 3 1 vO out.length (intsV out)
  bel : Below w1.heap.size w1 W
  le : w1.heap.size ≤ b
section
variable {w1 W W' : World} {b : Nat} {vO : Value} {out : List Int} {l : List (Option RecM)}
theorem StF.below (h : StF w1 W b vO out l) (hb : Below W.heap.size W W') : StF w1 W' b vO out l := by
  obtain ⟨xs, h1, h2, h3⟩ := h.best
  exact ⟨⟨xs, h1, fun x hx => (h2 x hx).below hb, h3.below hb h3.lt⟩, own_below h.row hb, h.bel.trans (hb.mono h.bel.size), h.le⟩
theorem StF.put (h : StF w1 W b vO out l) {n : Nat} (hn : n < l.length) {x : RcV} (hx : RecOwn W w1.heap.size x.enc.toArray x.m) : StF w1 (set6a W b (n * 6) x.vR (.int .i64 x.N) x.vT x.vP x.vK x.vO) b vO out (l.set n (some x.m)) := by
  obtain ⟨xs, h1, h2, h3⟩ := h.best
  have hl : n < xs.length := by rw [← h1] at hn; simpa using hn
  have hg := grown_set6a W b (n * 6) x.vR (.int .i64 x.N) x.vT x.vP x.vK x.vO
  refine ⟨⟨xs.set n (some x), ?_, ?_, blk_set6a h3 hl x⟩, h.row.kept hg (.inr (own_blk_ne h.row h3 (by decide))), h.bel.grown hg h.bel.size (fun j e => by cases e; exact h.le), h.le⟩
  · rw [List.map_set, h1]
    rfl
  · intro y hy
    rcases List.mem_or_eq_of_mem_set hy with hy | hy
    · exact (h2 y hy).kept h3 hg
    · rw [Option.some.inj hy]
      exact hx.kept h3 hg
/-- What is read of the n-th: its row; its cells can be written. -/
theorem StF.get (h : StF w1 W b vO out l) {n : Nat} {o : Option RecM} (hn : l[n]? = some o) : (∀ i, W.frozen? ⟨b, i, none⟩ = false) ∧ (∀ i, i < 6 → ∃ u, W.cell? ⟨b, n * 6 + i, none⟩ = some u) ∧ (match o with
    | none => W.cell? ⟨b, n * 6, none⟩ = some (.slice none 0 0)
    | some r => ∃ a c, W.cell? ⟨b, n * 6, none⟩ = some (.slice a r.row.length c) ∧ W.ownsRow w1.heap.size 3 1 (.slice a r.row.length c) r.row.length (intsV r.row)) := by
  obtain ⟨xs, h1, h2, h3⟩ := h.best
  rw [← h1, List.getElem?_map] at hn
  obtain ⟨y, hy, hyo⟩ := Option.map_eq_some_iff.1 hn
  have hl : n < xs.length := (List.getElem?_eq_some_iff.1 hy).1
  have hc : ∀ i, i < 6 → W.cell? ⟨b, n * 6 + i, none⟩ = some (encO y)[i]! := by
    intro i hi
    rw [h3.cell]
    rw [List.getElem?_toArray, flatMap_at encO_len (by decide) xs (n * 6 + i) (by omega)]
    have e1 : (n * 6 + i) / 6 = n := by omega
    have e2 : (n * 6 + i) % 6 = i := by omega
    rw [e1, e2, getElem!_pos xs n hl]
    rw [List.getElem?_eq_getElem hl] at hy
    rw [Option.some.inj hy]
  refine ⟨fun i => h3.frozen i, fun i hi => ⟨_, hc i hi⟩, ?_⟩
  subst hyo
  have h0 := hc 0 (by decide)
  rw [Nat.add_zero] at h0
  cases y with
  | none => exact h0
  | some x =>
    obtain ⟨vR, vT, vP, vK, vO', e, g1, -⟩ := h2 x (List.mem_of_getElem? hy)
    obtain ⟨a, c, rfl⟩ := ownsRow_slice g1
    have e2 : x.enc = [.slice a x.m.row.length c, .int .i64 x.m.N, vT, vP, vK, vO'] := by simpa using congrArg Array.toList e
    refine ⟨a, c, ?_, g1⟩
    rw [h0]
    show some ((x.enc)[0]!) = _
    rw [e2]
    rfl
theorem StF.all (h : StF w1 W b vO out l) {rs : List RecM} (hl : l = rs.map some) (hm : rs.length * 6 ≤ maxLen) : Recs W w1.heap.size b rs := by
  obtain ⟨xs, h1, h2, h3⟩ := h.best
  subst hl
  have key : ∀ (xs : List (Option RcV)) (rs : List RecM), xs.map (Option.map (·.m)) = rs.map some → ∃ ys : List RcV, xs = ys.map some ∧ ys.map (·.m) = rs := by
    intro xs
    induction xs with
    | nil =>
      intro rs e
      cases rs with
      | nil => exact ⟨[], rfl, rfl⟩
      | cons r s => simp at e
    | cons a t ih =>
      intro rs e
      cases rs with
      | nil => simp at e
      | cons r s =>
        simp only [List.map_cons, List.cons.injEq] at e
        obtain ⟨ys, e1, e2⟩ := ih s e.2
        obtain ⟨x, hx, hx2⟩ := Option.map_eq_some_iff.1 e.1
        exact ⟨x :: ys, by rw [hx, e1]; rfl, by rw [List.map_cons, hx2, e2]⟩
  obtain ⟨ys, rfl, e2⟩ := key xs rs h1
  refine ⟨h.le, hm, ys, e2, fun x hx => h2 x (List.mem_map.2 ⟨x, hx, rfl⟩), ?_⟩
  rw [List.flatMap_map] at h3
  exact h3
end
theorem StF.first {w1 W : World} {b m : Nat} {vO : Value} {out : List Int} (hb : W.ownsRow w1.heap.size 142 6 (.slice (some ⟨b, 0, none⟩) m m) m ((List.replicate m (none : Option RcV)).flatMap encO)) (hr : W.ownsRow w1.heap.size 3 1 vO out.length (intsV out)) (hbel : Below w1.heap.size w1 W) : StF w1 W b vO out (List.replicate m none) :=
  ⟨⟨List.replicate m none, by simp, fun x hx => absurd (List.eq_of_mem_replicate hx) (by simp), owns_blk hb⟩, hr, hbel, (hb.lt b rfl).1⟩

/-- While it appends: the body's block, the soups, the paint, the sides, the old numbers. -/
structure AcF (w5 W : World) (bx : Nat) (ys : List RcV) (P : List Tr) (K O : List Int) (vA vP vK vO : Value) : Prop where
  kx : Blk W bx 98 #[.int .i64 0, .slice none 0 0, vP, vK]
  rA : W.ownsRow w5.heap.size 24 2 vA ys.length (ys.flatMap fun x => [.int .i64 x.N, x.vT])
  rP : W.ownsRow w5.heap.size 162 3 vP P.length (ws3 P)
  rK : W.ownsRow w5.heap.size 3 1 vK K.length (intsV K)
  rO : W.ownsRow w5.heap.size 3 1 vO O.length (intsV O)
  ne : ∀ j, vK.ownBlock = some j → vO.ownBlock ≠ some j
  bel : Below w5.heap.size w5 W
  le : w5.heap.size ≤ bx
section
variable {w5 W W' w4 : World} {bx : Nat} {ys : List RcV} {P : List Tr} {K O : List Int} {vA vP vK vO v4 : Value}
theorem AcF.below (h : AcF w5 W bx ys P K O vA vP vK vO) (hb : Below W.heap.size W W') : AcF w5 W' bx ys P K O vA vP vK vO :=
  ⟨h.kx.below hb h.kx.lt, own_below h.rA hb, own_below h.rP hb, own_below h.rK hb, own_below h.rO hb, h.ne, h.bel.trans (hb.mono h.bel.size), h.le⟩
theorem AcF.alloc (h : AcF w5 W bx ys P K O vA vP vK vO) (o : Obj) : AcF w5 (W.alloc o) bx ys P K O vA vP vK vO := h.below ((Below.refl _ _).alloc (Nat.le_refl _) _)
theorem AcF.appA (h : AcF w5 W bx ys P K O vA vP vK vO) (hg : W.grownBy w4 vA.ownBlock) {ys4 : List RcV} (hr : w4.ownsRow w5.heap.size 24 2 v4 ys4.length (ys4.flatMap fun x => [.int .i64 x.N, x.vT])) : AcF w5 w4 bx ys4 P K O v4 vP vK vO :=
  ⟨h.kx.grown hg (fun e => own_blk_ne h.rA h.kx (by decide) e.symm), hr, h.rP.kept hg (own_own_ne h.rP h.rA (by decide)), h.rK.kept hg (own_own_ne h.rK h.rA (by decide)), h.rO.kept hg (own_own_ne h.rO h.rA (by decide)), h.ne, h.bel.grown hg h.bel.size (fun j e => (h.rA.lt j e).1), h.le⟩
theorem AcF.appP (h : AcF w5 W bx ys P K O vA vP vK vO) (hg : W.grownBy w4 vP.ownBlock) {P4 : List Tr} (hr : w4.ownsRow w5.heap.size 162 3 v4 P4.length (ws3 P4)) :
    Blk w4 bx 98 #[.int .i64 0, .slice none 0 0, vP, vK] ∧ AcF w5 (w4.setCell ⟨bx, 2, none⟩ v4) bx ys P4 K O vA v4 vK vO := by
  have c := h.kx.grown hg (fun e => own_blk_ne h.rP h.kx (by decide) e.symm)
  have hS : w4.grownBy (w4.setCell ⟨bx, 2, none⟩ v4) (some bx) := gStR (World.grownBy.refl _ _)
  have a4 := h.rA.kept hg (own_own_ne h.rA h.rP (by decide))
  have k4 := h.rK.kept hg (own_own_ne h.rK h.rP (by decide))
  have o4 := h.rO.kept hg (own_own_ne h.rO h.rP (by decide))
  exact ⟨c, ⟨by simpa using c.set_ 2 v4, a4.kept hS (.inr (own_blk_ne a4 c (by decide))), hr.kept hS (.inr (own_blk_ne hr c (by decide))), k4.kept hS (.inr (own_blk_ne k4 c (by decide))), o4.kept hS (.inr (own_blk_ne o4 c (by decide))), h.ne, (h.bel.grown hg h.bel.size (fun j e => (h.rP.lt j e).1)).setCell h.le _, h.le⟩⟩
theorem AcF.appK (h : AcF w5 W bx ys P K O vA vP vK vO) (hg : W.grownBy w4 vK.ownBlock) {K4 : List Int} (hr : w4.ownsRow w5.heap.size 3 1 v4 K4.length (intsV K4)) (hat : v4.ownBlock = vK.ownBlock ∨ v4.ownBlock = some W.heap.size) :
    Blk w4 bx 98 #[.int .i64 0, .slice none 0 0, vP, vK] ∧ AcF w5 (w4.setCell ⟨bx, 3, none⟩ v4) bx ys P K4 O vA vP v4 vO := by
  have c := h.kx.grown hg (fun e => own_blk_ne h.rK h.kx (by decide) e.symm)
  have hS : w4.grownBy (w4.setCell ⟨bx, 3, none⟩ v4) (some bx) := gStR (World.grownBy.refl _ _)
  have a4 := h.rA.kept hg (own_own_ne h.rA h.rK (by decide))
  have p4 := h.rP.kept hg (own_own_ne h.rP h.rK (by decide))
  have o4 := h.rO.kept hg (by
    rcases hO : vO.ownBlock with _ | j
    · exact .inl rfl
    · exact .inr (fun e => h.ne j e.symm hO))
  refine ⟨c, ⟨by simpa using c.set_ 3 v4, a4.kept hS (.inr (own_blk_ne a4 c (by decide))), p4.kept hS (.inr (own_blk_ne p4 c (by decide))), hr.kept hS (.inr (own_blk_ne hr c (by decide))), o4.kept hS (.inr (own_blk_ne o4 c (by decide))), ?_, (h.bel.grown hg h.bel.size (fun j e => (h.rK.lt j e).1)).setCell h.le _, h.le⟩⟩
  intro j e e2
  rcases hat with h1 | h1
  · exact h.ne j (by rw [← h1]; exact e) e2
  · rw [h1] at e
    cases e
    have := (h.rO.lt _ e2).2
    omega
theorem AcF.appO (h : AcF w5 W bx ys P K O vA vP vK vO) (hg : W.grownBy w4 vO.ownBlock) {O4 : List Int} (hr : w4.ownsRow w5.heap.size 3 1 v4 O4.length (intsV O4)) (hat : v4.ownBlock = vO.ownBlock ∨ v4.ownBlock = some W.heap.size) : AcF w5 w4 bx ys P K O4 vA vP vK v4 := by
  refine ⟨h.kx.grown hg (fun e => own_blk_ne h.rO h.kx (by decide) e.symm), h.rA.kept hg (own_own_ne h.rA h.rO (by decide)), h.rP.kept hg (own_own_ne h.rP h.rO (by decide)), h.rK.kept hg (by
    rcases hK : vK.ownBlock with _ | j
    · exact .inl rfl
    · exact .inr (fun e => h.ne j hK e.symm)), hr, ?_, h.bel.grown hg h.bel.size (fun j e => (h.rO.lt j e).1), h.le⟩
  intro j e e2
  rcases hat with h1 | h1
  · exact h.ne j e (by rw [← h1]; exact e2)
  · rw [h1] at e2
    cases e2
    have := (h.rK.lt _ e).2
    omega
end
end Go.Proofs.Ytpnkhgjjlionnaa
namespace Go.Proofs.Ytpnkhgjjlionnaa
open Go.RowKit Go.Maps

theorem infoPt : (Try.prog.info? 162).map (fun i => (i.zero, i.size, i.bytes)) = some (some (.agg #[.int .i64 0, .int .i64 0, .int .i64 0]), 3, 24) := by kernel_rfl
theorem intsV_three (R : List Int) (x y z : Int) : intsV (R ++ [x, y, z]) = intsV R ++ [.int .i64 x, .int .i64 y, .int .i64 z] := by simp [intsV]
theorem intsV_one1 (R : List Int) (x : Int) : intsV (R ++ [x]) = intsV R ++ [.int .i64 x] := by simp [intsV]
theorem own_len1 {W : World} {base : Nat} {v : Value} {R : List Int} {x : Int} {us : List Value} (e : intsV (R ++ [x]) = us) (h : W.ownsRow base 3 1 v (R.length + 1) us) : W.ownsRow base 3 1 v (R ++ [x]).length (intsV (R ++ [x])) := by
  rw [e, List.length_append]
  exact h
theorem ne_new {v : Value} {q g n : Nat} (h : v.ownBlock ≠ some q) (hat : v.ownBlock = some g ∨ g = n) (hq : q < n) {k c : Nat} : (Value.slice (some ⟨g, 0, none⟩) k c).ownBlock ≠ some q := by
  intro e
  have e2 : g = q := by simpa [Value.ownBlock] using e
  subst e2
  rcases hat with h2 | h2
  · exact h h2
  · omega
theorem far_q {W : World} {x q : Nat} {cs ds : Array Value} (hx : Blk W x 142 cs) (hq : Blk W q 3 ds) (i : Nat) (u : Value) : Blk (W.setCell ⟨x, i, none⟩ u) q 3 ds :=
  hq.far (p := ⟨x, i, none⟩) (fun e => hx.ne_ hq (by decide) e.symm) u
theorem own_len3 {W : World} {base : Nat} {v : Value} {R : List Int} {x y z : Int} {us : List Value} (e : intsV (R ++ [x, y, z]) = us) (h : W.ownsRow base 3 1 v (R.length + 3) us) : W.ownsRow base 3 1 v (R ++ [x, y, z]).length (intsV (R ++ [x, y, z])) := by
  rw [e, List.length_append]
  exact h
theorem or_le {A : Prop} {g n : Nat} (h : A ∨ g = n) : A ∨ n ≤ g := h.imp id (fun e => by rw [e]; exact Nat.le_refl _)
theorem fourF {w : World} {b : Nat} {t : TypeId} {x0 x1 x2 x3 : Value} (h : Blk w b t #[x0, x1, x2, x3]) : b < w.heap.size ∧ w.cell? ⟨b, 0, none⟩ = some x0 ∧ w.cell? ⟨b, 1, none⟩ = some x1 ∧ w.cell? ⟨b, 2, none⟩ = some x2 ∧ w.cell? ⟨b, 3, none⟩ = some x3 :=
  ⟨h.lt, h.cell 0, h.cell 1, h.cell 2, h.cell 3⟩
theorem sixF {w : World} {b : Nat} {t : TypeId} {x0 x1 x2 x3 x4 x5 : Value} (h : Blk w b t #[x0, x1, x2, x3, x4, x5]) : b < w.heap.size ∧ w.cell? ⟨b, 0, none⟩ = some x0 ∧ w.frozen? ⟨b, 0, none⟩ = false ∧ w.cell? ⟨b, 1, none⟩ = some x1 ∧ w.frozen? ⟨b, 1, none⟩ = false ∧ w.cell? ⟨b, 2, none⟩ = some x2 ∧ w.frozen? ⟨b, 2, none⟩ = false ∧ w.cell? ⟨b, 3, none⟩ = some x3 ∧ w.frozen? ⟨b, 3, none⟩ = false ∧ w.cell? ⟨b, 4, none⟩ = some x4 ∧ w.frozen? ⟨b, 4, none⟩ = false ∧ w.cell? ⟨b, 5, none⟩ = some x5 ∧ w.frozen? ⟨b, 5, none⟩ = false :=
  ⟨h.lt, h.cell 0, h.frozen 0, h.cell 1, h.frozen 1, h.cell 2, h.frozen 2, h.cell 3, h.frozen 3, h.cell 4, h.frozen 4, h.cell 5, h.frozen 5⟩
section
variable {w w0 : World} {b : Nat} {t : TypeId} {x0 x1 x2 x3 x4 x5 : Value} (y0 y1 y2 y3 y4 y5 : Value)
/-- Six cells are stored, one behind the other. -/
def set6 (w : World) (b : Nat) (y0 y1 y2 y3 y4 y5 : Value) : World := (((((w.setCell ⟨b, 0, none⟩ y0).setCell ⟨b, 1, none⟩ y1).setCell ⟨b, 2, none⟩ y2).setCell ⟨b, 3, none⟩ y3).setCell ⟨b, 4, none⟩ y4).setCell ⟨b, 5, none⟩ y5
theorem blk_set6 (h : Blk w b t #[x0, x1, x2, x3, x4, x5]) : Blk (set6 w b y0 y1 y2 y3 y4 y5) b t #[y0, y1, y2, y3, y4, y5] := by
  have := (((((h.set_ 0 y0).set_ 1 y1).set_ 2 y2).set_ 3 y3).set_ 4 y4).set_ 5 y5
  simpa [set6] using this
theorem own_set6 {base n s : Nat} {e : TypeId} {v : Value} {xs : List Value} (hr : w.ownsRow base e s v n xs) (h : Blk w b t #[x0, x1, x2, x3, x4, x5]) (hne : e ≠ t) : (set6 w b y0 y1 y2 y3 y4 y5).ownsRow base e s v n xs :=
  own_alloc_st (own_alloc_st (own_alloc_st (own_alloc_st (own_alloc_st (own_alloc_st hr h hne) (h.set_ 0 y0) hne) ((h.set_ 0 y0).set_ 1 y1) hne) (((h.set_ 0 y0).set_ 1 y1).set_ 2 y2) hne) ((((h.set_ 0 y0).set_ 1 y1).set_ 2 y2).set_ 3 y3) hne) (((((h.set_ 0 y0).set_ 1 y1).set_ 2 y2).set_ 3 y3).set_ 4 y4) hne
theorem below_set6 {B : Nat} (h : Below B w0 w) (hb : B ≤ b) : Below B w0 (set6 w b y0 y1 y2 y3 y4 y5) :=
  (((((h.setCell (p := ⟨b, 0, none⟩) hb y0).setCell (p := ⟨b, 1, none⟩) hb y1).setCell (p := ⟨b, 2, none⟩) hb y2).setCell (p := ⟨b, 3, none⟩) hb y3).setCell (p := ⟨b, 4, none⟩) hb y4).setCell (p := ⟨b, 5, none⟩) hb y5
end
set_option maxRecDepth 100000 in
set_option maxHeartbeats 4000000 in
theorem from_any (g : Nat) (N : Int) (T : List Tr) (w : World) (c : Nat) (bN : Int) (bT bP bK : Value) (P : List Tr) (K : List Int) (hbT : ∃ a n m, bT = .slice a n m) (hP : TrisRd w bP P) (hK : IntsRd w bK K) (hT : Tab w g N T) (hc : c < 3 * T.length)
    (hPl : P ≠ [] → (P.length : Int) = N) (hKl : K ≠ [] → K.length = 3 * T.length) :
    Calls Try.prog 84 #[.pointer (some ⟨g, 0, none⟩), .agg #[.int .i64 bN, bT, bP, bK], .int .i64 (c : Int)] w fun e w' => ∃ cs, e = .returned (.agg cs) ∧ RecOwn w' w.heap.size cs (fromM T P K c) ∧ Below w.heap.size w w' := by
  obtain ⟨aB, nB, mB, rfl⟩ := hbT
  have HPr := Lib.hid (fun (W : World) (hW : Below w.heap.size w W) => hP.below hW)
  have HKr := Lib.hid (fun (W : World) (hW : Below w.heap.size w W) => hK.below hW)
  obtain ⟨aP, cP, rfl, hcP, hcP2, -⟩ := hP
  obtain ⟨aK, cK, rfl, hcK, -⟩ := hK
  obtain ⟨nP, hnP⟩ : ∃ nP, P.length = nP := ⟨_, rfl⟩
  obtain ⟨nK, hnK⟩ : ∃ nK, K.length = nK := ⟨_, rfl⟩
  rw [hnP] at hcP HPr hPl ⊢
  rw [hnK] at hcK HKr hKl ⊢
  have HnP := Lib.hid hnP
  have HnK := Lib.hid hnK
  clear hnP hnK
  have hB0 : Below w.heap.size w ((w.alloc (.cells #[.int .i64 bN, .slice aB nB mB, .slice aP nP cP, .slice aK nK cK] 98)).alloc (.cells #[.slice none 0 0, .int .i64 0, .slice none 0 0, .slice none 0 0, .slice none 0 0, .slice none 0 0] 142)) := ((Below.refl _ _).alloc (Nat.le_refl _) _).alloc (by simp) _
  have bb := (Blk.new w 98 #[.int .i64 bN, .slice aB nB mB, .slice aP nP cP, .slice aK nK cK]).alloc (.cells #[.slice none 0 0, .int .i64 0, .slice none 0 0, .slice none 0 0, .slice none 0 0, .slice none 0 0] 142)
  have br : Blk ((w.alloc (.cells #[.int .i64 bN, .slice aB nB mB, .slice aP nP cP, .slice aK nK cK] 98)).alloc (.cells #[.slice none 0 0, .int .i64 0, .slice none 0 0, .slice none 0 0, .slice none 0 0, .slice none 0 0] 142)) (w.heap.size + 1) 142 #[.slice none 0 0, .int .i64 0, .slice none 0 0, .slice none 0 0, .slice none 0 0, .slice none 0 0] := blk_new_at (by simp)
  have HR := Lib.hid (rooted_any g N T _ c (hT.below hB0) hc)
  have HT := Lib.hid (fun (W : World) (hW : Below w.heap.size w W) => hT.below hW)
  have HIn := Lib.hid (fun (d : Nat) (hd : d < 3 * T.length) => vertN_in hT.inr hd)
  obtain ⟨hn2, hn3, hn4⟩ := rtN_lens hc
  have hTl := hT.len
  have HN2 := Lib.hid hn2
  clear hn2
  have HPl := Lib.hid hPl
  have HKl := Lib.hid hKl
  have HB := Lib.hid hB0
  have HBb := Lib.hid bb
  have HBr := Lib.hid br
  clear hB0 hT hPl hKl bb br
  go_enter Try.func84, Try.ntmps84
  go_wp2_with (go_at_call 28; go_loud (refine HR.out.mono ?_; rintro e w1 ⟨vT, vO, vC, rfl, hrT, hrO, hrC, hb1⟩; have hHRT : TrisRd w1 vT (rtN T c).2 := TrisRd.of_row hrT; have HRW := Lib.hid (fun (W : World) (hW : Below w1.heap.size w1 W) => row_any ((rtN T c).1.length : Int) vT (rtN T c).2 W (hHRT.below hW) (by have := HN2.out; omega)); obtain ⟨aT, cT, rfl⟩ := ownsRow_slice hrT; obtain ⟨aO, cO, rfl⟩ := ownsRow_slice hrO; obtain ⟨aC, cC, rfl⟩ := ownsRow_slice hrC))
  obtain ⟨nT, hnT⟩ : ∃ nT, (rtN T c).2.length = nT := ⟨_, rfl⟩
  obtain ⟨nO, hnO⟩ : ∃ nO, (rtN T c).1.length = nO := ⟨_, rfl⟩
  obtain ⟨nC, hnC⟩ : ∃ nC, (rtL T c).length = nC := ⟨_, rfl⟩
  have hn2 := HN2.out
  rw [hnT] at hrT HRW hn2 ⊢
  rw [hnO] at hrO HRW hn4 ⊢
  rw [hnC] at hrC hn2 hn3 ⊢
  have bs := Blk.new w1 24 #[.int .i64 (nO : Int), .slice aT nT cT]
  obtain ⟨p7, s0, -, s1, -⟩ := bs.two
  have HBs := Lib.hid bs
  have HB1 := Lib.hid hb1
  have HBd := Lib.hid ((((Below.refl w1.heap.size w1).alloc (Nat.le_refl _) (.cells #[.int .i64 (nO : Int), .slice aT nT cT] 24)).drew))
  have HrT := Lib.hid hrT
  have HrO := Lib.hid hrO
  have HrC := Lib.hid hrC
  have HnT := Lib.hid hnT
  have HnO := Lib.hid hnO
  have HnC := Lib.hid hnC
  have hnTl : nT ≤ 8192 := by omega
  clear hrT hrO hrC hb1 hHRT bs hnT hnO hnC hn2
  have HBd2 := Lib.hid (((((Below.refl w1.heap.size w1).alloc (Nat.le_refl _) (.cells #[.int .i64 (nO : Int), .slice aT nT cT] 24)).alloc (by simp) (.cells #[.slice none 0 0, .int .i64 0, .slice none 0 0, .slice none 0 0, .slice none 0 0, .slice none 0 0] 142))).drew)
  have hbx : Blk (((w1.alloc (.cells #[.int .i64 (nO : Int), .slice aT nT cT] 24)).alloc (.cells #[.slice none 0 0, .int .i64 0, .slice none 0 0, .slice none 0 0, .slice none 0 0, .slice none 0 0] 142)).drew) (w1.heap.size + 1) 142 #[.slice none 0 0, .int .i64 0, .slice none 0 0, .slice none 0 0, .slice none 0 0, .slice none 0 0] := Blk.drew (blk_new_at (by simp))
  have HBx := Lib.hid hbx
  clear hbx
  go_cut [10] (fun v10 W => ∃ x vR, v10 = .pointer (some ⟨x, 0, none⟩) ∧ FrSt w1 W x (nO : Int) (.slice aT nT cT) (.slice aO nO cO) (rowM (nO : Int) (rtN T c).2) [] [] vR (.slice none 0 0) (.slice none 0 0))
  case first =>
    go_region_held3 (fun w' => w'.cell? ⟨w1.heap.size, 0, none⟩ = some (.int .i64 (nO : Int)) ∧ w'.cell? ⟨w1.heap.size, 1, none⟩ = some (.slice aT nT cT)) (go_keep)
      (first
      | (go_at_call 61; with_reducible refine (HRW.out _ HBd.out).mono ?_; rintro e wA ⟨vR, rfl, hA, hbA⟩; have hk := HBs.out.drew.below hbA HBs.out.drew.lt; obtain ⟨-, u0, -, u1, -⟩ := hk.two; obtain ⟨aR, cR, rfl⟩ := ownsRow_slice hA)
      | (go_at_call 61; go_loud (with_reducible refine (HRW.out _ HBd2.out).mono ?_); rintro e wA ⟨vR, rfl, hA, hbA⟩; have hk := (HBs.out.alloc (.cells #[.slice none 0 0, .int .i64 0, .slice none 0 0, .slice none 0 0, .slice none 0 0, .slice none 0 0] 142)).drew.below hbA (HBs.out.alloc _).drew.lt; obtain ⟨-, u0, -, u1, -⟩ := hk.two; have hkx := HBx.out.below hbA HBx.out.lt; obtain ⟨lx, y0, f0, y1, f1, y2, f2, y3, f3, y4, f4, y5, f5⟩ := sixF hkx; obtain ⟨aR, cR, rfl⟩ := ownsRow_slice hA))
    · go_wp2_with fail
      go_meet
      have hz := hbA.size
      have hb9 : Below w1.heap.size w1 wA := HBd.out.trans (hbA.mono HBd.out.size)
      exact ⟨wA.heap.size, _, rfl, Blk.new wA _ _, by rw [rowM_len, HnT.out]; exact (own_lower hA HBd.out.size).alloc _, World.ownsRow_nil _ _ _ _, World.ownsRow_nil _ _ _ _, fun j e => (by simp [Value.ownBlock]), hb9.alloc hb9.size _, hb9.size⟩
    · go_wp2_with fail
      go_meet
      have hb9 : Below w1.heap.size w1 wA := HBd2.out.trans (hbA.mono HBd2.out.size)
      exact ⟨w1.heap.size + 1, _, rfl, blk_set6 _ _ _ _ _ _ hkx, by have := own_set6 (.slice aR (2 + 3 * nT) cR) (.int .i64 (nO : Int)) (.slice aT nT cT) (.slice none 0 0) (.slice none 0 0) (.slice aO nO cO) (own_lower hA HBd2.out.size) hkx (by decide); rw [rowM_len, HnT.out]; exact this, World.ownsRow_nil _ _ _ _, World.ownsRow_nil _ _ _ _, fun j e => (by simp [Value.ownBlock]), below_set6 _ _ _ _ _ _ hb9 (by omega), by omega⟩
  case rest =>
    obtain ⟨x, vR, rfl, hF⟩ := hcut
    rename World => W2
    have HF := Lib.hid hF
    have HBb1 := Lib.hid (HBb.out.below HB1.out HBb.out.lt)
    have HB1b := Lib.hid (HB.out.trans (HB1.out.mono HB.out.size))
    have HBb2 := Lib.hid ((HBb.out.below HB1.out HBb.out.lt).below hF.bel (by have := HBb.out.lt; have := HB1.out.size; omega))
    obtain ⟨i2, hj2, hz0, hz1, hz2⟩ := info_parts infoInt
    obtain ⟨i3, hj3, hy0, hy1, hy2⟩ := info_parts infoPt
    have hxw := hF.xle
    have hw1 := HB1.out.size
    have hw1' : w.heap.size ≤ w1.heap.size := HB1b.out.size
    have hBb2 := HBb2.out
    obtain ⟨lb, b0, b1, b2, b3⟩ := fourF hBb2
    clear hF hBb2 HBd HBd2 HBx HBs p7 s0 s1
    go_upto_if 34 with (fail)
    go_cut [] (fun W => ∃ vR vP, FrSt w1 W x (nO : Int) (.slice aT nT cT) (.slice aO nO cO) (rowM (nO : Int) (rtN T c).2 ++ flatT (paintL P (rtN T c).1)) (paintL P (rtN T c).1) [] vR vP (.slice none 0 0))
    case first =>
      by_cases hP0 : P = []
      · have HF2 := Lib.hid (show FrSt w1 W2 x (nO : Int) (.slice aT nT cT) (.slice aO nO cO) (rowM (nO : Int) (rtN T c).2 ++ flatT (paintL P (rtN T c).1)) (paintL P (rtN T c).1) [] vR (.slice none 0 0) (.slice none 0 0) from by
          have e : paintL P (rtN T c).1 = [] := by unfold paintL; rw [if_pos hP0]
          rw [e]
          have e2 : rowM (nO : Int) (rtN T c).2 ++ flatT [] = rowM (nO : Int) (rtN T c).2 := by simp [flatT]
          rw [e2]
          exact HF.out)
        have h0 : nP = 0 := by rw [← HnP.out, hP0]; rfl
        subst h0
        clear hP0
        go_wp2
        go_meet
        exact ⟨_, _, HF2.out⟩
      · have hp0 : 0 < nP := by rw [← HnP.out]; exact List.length_pos_iff.2 hP0
        have HPN := Lib.hid (HPl.out hP0)
        have HP0 := Lib.hid hP0
        clear hP0
        have hdT : decide (0 < nP) = true := by simpa using hp0
        simp only [hdT]
        go_wp2
        clear b0 b1 b2 b3 lb hp0 hdT
        have HI0 := Lib.hid (show FrSt w1 W2 x (nO : Int) (.slice aT nT cT) (.slice aO nO cO) (rowM (nO : Int) (rtN T c).2 ++ flatT (paintF P ((rtN T c).1.take 0))) (paintF P ((rtN T c).1.take 0)) [] vR (.slice none 0 0) (.slice none 0 0) from by
          have e : paintF P ((rtN T c).1.take 0) = [] := rfl
          rw [e]
          have e2 : rowM (nO : Int) (rtN T c).2 ++ flatT [] = rowM (nO : Int) (rtN T c).2 := by simp [flatT]
          rw [e2]
          exact HF.out)
        go_loopw [37] (fun i wr => ∃ k : Nat, k ≤ nO ∧ i = .int .i64 k ∧ ∃ vR vP, FrSt w1 wr x (nO : Int) (.slice aT nT cT) (.slice aO nO cO) (rowM (nO : Int) (rtN T c).2 ++ flatT (paintF P ((rtN T c).1.take k))) (paintF P ((rtN T c).1.take k)) [] vR vP (.slice none 0 0)) (fun i _ => nO - (intOf i).toNat)
        case atStart => exact ⟨0, Nat.zero_le _, rfl, _, _, HI0.out⟩
        case round =>
          rename World => wr
          obtain ⟨k, hk, rfl, vR', vP, hI⟩ := hrel
          by_cases hlt : k < nO
          · have hkO : k < (rtN T c).1.length := by rw [HnO.out]; exact hlt
            obtain ⟨d, hd1, hd2⟩ := rtN_in hc (List.getElem_mem hkO)
            have hb9 := hI.bel
            have hrO := own_below HrO.out hb9
            obtain ⟨gO, capO, eO, -, -⟩ := hrO.form (by omega)
            cases eO
            obtain ⟨vn, hvn⟩ : ∃ vn : Nat, (rtN T c).1[k] = (vn : Int) := ⟨((rtN T c).1[k]).toNat, by have h9 := HIn.out d hd1; rw [hd2]; omega⟩
            have hvP : vn < nP := by have h9 := HIn.out d hd1; have h8 := HPN.out; omega
            have hcO : wr.cell? ⟨gO, k, none⟩ = some (.int .i64 (vn : Int)) := by
              rw [hrO.cellAt k (by omega)]
              unfold intsV
              rw [List.getElem?_map, List.getElem?_eq_getElem hkO, hvn]
              rfl
            obtain ⟨⟨px, py, pz⟩, hp⟩ : ∃ q, P[vn]? = some q := ⟨P[vn]'(by rw [HnP.out]; exact hvP), List.getElem?_eq_getElem _⟩
            have hPr := HPr.out wr (HB1b.out.trans (hb9.mono HB1b.out.size))
            obtain ⟨a', c', e', -, -, hr3⟩ := hPr
            rw [HnP.out] at e'
            cases e'
            obtain ⟨bP, oP, rfl, hbP, s0, s1, s2⟩ := hr3 vn px py pz hp
            have HTk := Lib.hid (paintF_take (P := P) (old := (rtN T c).1) (k := k) (v := (vn : Int)) (by rw [List.getElem?_eq_getElem hkO, hvn]))
            have Hp := Lib.hid (show P.getD ((vn : Int)).toNat (0, 0, 0) = (px, py, pz) from by simp [List.getD, hp])
            obtain ⟨Pk, hPk⟩ : ∃ Pk, paintF P ((rtN T c).1.take k) = Pk := ⟨_, rfl⟩
            obtain ⟨Rk, hRk⟩ : ∃ Rk, rowM (nO : Int) (rtN T c).2 ++ flatT Pk = Rk := ⟨_, rfl⟩
            have HLk := Lib.hid (show Pk.length = k ∧ Rk.length ≤ 200000 from by
              have e1 : Pk.length = k := by rw [← hPk, paintF_len, List.length_take]; omega
              refine ⟨e1, ?_⟩
              rw [← hRk, List.length_append, rowM_len, flatT_length, e1]
              have := HnT.out
              omega)
            rw [hPk] at hI HTk
            rw [hRk] at hI
            rw [Hp.out] at HTk
            have HRk := Lib.hid hRk
            obtain ⟨lb, b0, b1, b2, b3⟩ := fourF (HBb1.out.below hb9 HBb1.out.lt)
            obtain ⟨lx, y0, f0, y1, f1, y2, f2, y3, f3, y4, f4, y5, f5⟩ := sixF hI.bx
            have hvP' : (vn : Int) < (nP : Int) := by omega
            have hz9 := hb9.size
            have hltP := hI.rP.lt
            have HltP := Lib.hid hltP
            have HI := Lib.hid hI
            have hki : (k : Int) < (nO : Int) := by omega
            clear hI hrO hd2 hd1 hPk hRk hp hltP hr3 hb9 hvn hkO
            go_upto_region 8 with fail
            go_upto_region 9 with (first
              | (at_builtin; go_loud (refine wpList_append_lies _ rfl (.tmp 48) (.tmp 50) 96 rfl w1.heap.size 162 i3 _ 3 24 Try.underlying96 hj3 hy0 hy1 hy2 rfl (by decide) _ _ _ rfl ((HI.out.alloc (.cells #[.int .i64 px, .int .i64 py, .int .i64 pz] 162)).alloc (.cells #[.int .i64 px, .int .i64 py, .int .i64 pz] 162)).rP ⟨wr.heap.size + 1, 0, none⟩ 1 1 [.int .i64 px, .int .i64 py, .int .i64 pz] rfl rfl (World.news_of_block (blk_new_at (by simp))) (by simp [Value.oneCell']) (by decide) (by have := HLk.out; unfold maxLen; omega) (by have := HLk.out; omega) (by simp; omega) (wr.heap.size + 1 + 1) (by simp) ?_); intro g8 cap8 W8 hr8 hg8 hat8 hlt8; have h9 := ((HI.out.alloc (.cells #[.int .i64 px, .int .i64 py, .int .i64 pz] 162)).alloc (.cells #[.int .i64 px, .int .i64 py, .int .i64 pz] 162)).appP hg8 (P4 := Pk ++ [(px, py, pz)]) (by rw [ws3_snoc, List.length_append]; exact hr8); obtain ⟨lx8, z0, q0, z1, q1, z2, q2, z3, q3, z4, q4, z5, q5⟩ := sixF h9.1; have HF8 := Lib.hid h9.2; have hBx8 := h9.1; have hpt8 := ((Blk.new wr 162 #[.int .i64 px, .int .i64 py, .int .i64 pz]).alloc (.cells #[.int .i64 px, .int .i64 py, .int .i64 pz] 162)).grown hg8 (fun e => by have := (HltP.out _ e.symm).2; omega); have HPt8 := Lib.hid hpt8; have hNe8 := Lib.hid (Blk.ne_ hpt8 hBx8 (by decide)); clear hr8 hg8 hat8 hlt8 h9 hpt8 hBx8))
            have hpt9 := HPt8.out.far (p := ⟨x, 3, none⟩) (fun e => (hNe8.out e).elim) (.slice (some ⟨g8, 0, none⟩) (Pk.length + 1) cap8)
            generalize W8.setCell _ _ = W9 at *
            have HPt9 := Lib.hid hpt9.drew
            have HF9 := Lib.hid HF8.out.drew
            clear y0 f0 y1 f1 y2 f2 y3 f3 y4 f4 y5 f5 z0 q0 z1 q1 z2 q2 z3 q3 z4 q4 z5 q5 lx lx8 b0 b1 b2 b3 lb s0 s1 s2 hcO HPt8 hpt9
            obtain ⟨lx, y0, f0, -⟩ := sixF HF8.out.bx
            have HNw9 := Lib.hid (show ∀ (j : Nat) (u : Value), [Value.int .i64 px, .int .i64 py, .int .i64 pz][j]? = some u → W9.drew.cell? ((⟨wr.heap.size, 0, none⟩ : Addr).add j) = some u from World.news_of_block HPt9.out)
            have c9 : Rk.length + 3 ≤ maxLen := by have := HLk.out; unfold maxLen; omega
            have c8 : (Rk.length + 3) * 8 ≤ 140737488355328 := by have := HLk.out; omega
            have HrR9 := Lib.hid HF9.out.rR
            have hbe9 := HF9.out.bel.size
            go_region_law
              ((first
              | (refine step_append_lies W9.drew (by rfl) (.tmp 55) (.tmp 56) 35 (by rfl) w1.heap.size 3 i2 _ 1 8 Try.underlying35 hj2 hz0 hz1 hz2 (by rfl) (by decide) vR' Rk.length (intsV Rk) (by rfl) HrR9.out ⟨wr.heap.size, 0, none⟩ 3 3 [.int .i64 px, .int .i64 py, .int .i64 pz] (by rfl) (by rfl) HNw9.out (by simp [Value.oneCell']) (by decide) c9 c8 hbe9 _ rfl ?_; go_loud (intro g9 cap9 W10 hr9 hg9 hat9 hlt9; have e9 : intsV (Rk ++ [px, py, pz]) = intsV Rk ++ [.int .i64 px, .int .i64 py, .int .i64 pz] := (intsV_three Rk px py pz); have h9r : W10.ownsRow w1.heap.size 3 1 (.slice (some ⟨g9, 0, none⟩) (Rk.length + 3) cap9) (Rk ++ [px, py, pz]).length (intsV (Rk ++ [px, py, pz])) := (own_len3 e9 hr9); have h10 := HF9.out.appR hg9 (v4 := .slice (some ⟨g9, 0, none⟩) (Rk.length + 3) cap9) rfl h9r (or_le hat9); obtain ⟨lxA, z0, q0, -⟩ := sixF h10.1; have HF10 := Lib.hid h10.2; clear hr9 hg9 hat9 hlt9 h10))))
            all_goals
              go_wp2
              go_roundw
              case measure => simp [intOf]; omega
              case rel => exact ⟨k + 1, by omega, by go_num, _, _, by rw [HTk.out]; have e9 : rowM (nO : Int) (rtN T c).2 ++ flatT (Pk ++ [(px, py, pz)]) = Rk ++ [px, py, pz] := (by rw [flatT_snoc, ← List.append_assoc, HRk.out]); rw [e9]; exact HF10.out⟩
          · obtain rfl : k = nO := by omega
            have HI := Lib.hid (show FrSt w1 wr x (k : Int) (.slice aT nT cT) (.slice aO k cO) (rowM (k : Int) (rtN T c).2 ++ flatT (paintL P (rtN T c).1)) (paintL P (rtN T c).1) [] vR' vP (.slice none 0 0) from by
              have e : paintL P (rtN T c).1 = paintF P ((rtN T c).1.take k) := by unfold paintL; rw [if_neg HP0.out, List.take_of_length_le (by rw [HnO.out]; exact Nat.le_refl _)]
              rw [e]
              exact hI)
            clear hI
            go_wp2
            go_meet
            exact ⟨_, _, HI.out⟩
    case rest =>
      obtain ⟨vR2, vP2, hF3⟩ := hcut
      rename World => W3
      have HF3 := Lib.hid hF3
      have hBb3 := HBb1.out.below hF3.bel HBb1.out.lt
      clear b0 b1 b2 b3 lb HBb2 HF
      obtain ⟨lb, b0, b1, b2, b3⟩ := fourF hBb3
      clear hF3 hBb3
      go_upto_if 63 with (fail)
      go_cut [] (fun W => ∃ vR vK, FrSt w1 W x (nO : Int) (.slice aT nT cT) (.slice aO nO cO) (rowM (nO : Int) (rtN T c).2 ++ (flatT (paintL P (rtN T c).1) ++ sideL K (rtL T c))) (paintL P (rtN T c).1) (sideL K (rtL T c)) vR vP2 vK)
      case first =>
        by_cases hK0 : K = []
        · have HF4 := Lib.hid (show FrSt w1 W3 x (nO : Int) (.slice aT nT cT) (.slice aO nO cO) (rowM (nO : Int) (rtN T c).2 ++ (flatT (paintL P (rtN T c).1) ++ sideL K (rtL T c))) (paintL P (rtN T c).1) (sideL K (rtL T c)) vR2 vP2 (.slice none 0 0) from by
            have e : sideL K (rtL T c) = [] := by unfold sideL; rw [if_pos hK0]
            rw [e, List.append_nil]
            exact HF3.out)
          have h0 : nK = 0 := by rw [← HnK.out, hK0]; rfl
          subst h0
          clear hK0
          go_wp2
          go_meet
          exact ⟨_, _, HF4.out⟩
        · have hk0 : 0 < nK := by rw [← HnK.out]; exact List.length_pos_iff.2 hK0
          have HKN := Lib.hid (HKl.out hK0)
          have HK0 := Lib.hid hK0
          have hdT : decide (0 < nK) = true := by simpa using hk0
          simp only [hdT]
          clear hK0
          go_wp2
          clear b0 b1 b2 b3 lb hk0 hdT
          have HI0 := Lib.hid (show FrSt w1 W3 x (nO : Int) (.slice aT nT cT) (.slice aO nO cO) (rowM (nO : Int) (rtN T c).2 ++ (flatT (paintL P (rtN T c).1) ++ sideF K ((rtL T c).take 0))) (paintL P (rtN T c).1) (sideF K ((rtL T c).take 0)) vR2 vP2 (.slice none 0 0) from by
            have e : sideF K ((rtL T c).take 0) = [] := rfl
            rw [e, List.append_nil]
            exact HF3.out)
          go_loopg [66] (nC) (fun gk i wr => ∃ k : Nat, k ≤ nC ∧ gk = nC - k ∧ i = .int .i64 k ∧ ∃ vR vK, FrSt w1 wr x (nO : Int) (.slice aT nT cT) (.slice aO nO cO) (rowM (nO : Int) (rtN T c).2 ++ (flatT (paintL P (rtN T c).1) ++ sideF K ((rtL T c).take k))) (paintL P (rtN T c).1) (sideF K ((rtL T c).take k)) vR vP2 vK)
          case atStart => exact ⟨0, Nat.zero_le _, rfl, rfl, _, _, HI0.out⟩
          case round =>
            rename World => wr
            obtain ⟨k, hk, hgk, rfl, vR', vK', hI⟩ := hrel
            by_cases hlt : k < nC
            · have hkC : k < (rtL T c).length := by rw [HnC.out]; exact hlt
              obtain ⟨d, hd⟩ : ∃ d, (rtL T c)[k] = d := ⟨_, rfl⟩
              have hdl : d < 3 * T.length := by rw [← hd]; exact (LOk.rtL hc).lt _ (List.getElem_mem hkC)
              have hb9 := hI.bel
              have hrC := own_below HrC.out hb9
              obtain ⟨gC, capC, eC, -, -⟩ := hrC.form (by omega)
              cases eC
              have hcC : wr.cell? ⟨gC, k, none⟩ = some (.int .i64 (d : Int)) := by
                rw [hrC.cellAt k (by omega)]
                unfold intsV nats
                rw [List.getElem?_map, List.getElem?_map, List.getElem?_eq_getElem hkC, hd]
                rfl
              have HTk := Lib.hid (sideF_take (K := K) (L := rtL T c) (k := k) (d := d) (by rw [List.getElem?_eq_getElem hkC, hd]))
              obtain ⟨Sk, hSk⟩ : ∃ Sk, sideF K ((rtL T c).take k) = Sk := ⟨_, rfl⟩
              obtain ⟨Rk, hRk⟩ : ∃ Rk, rowM (nO : Int) (rtN T c).2 ++ (flatT (paintL P (rtN T c).1) ++ Sk) = Rk := ⟨_, rfl⟩
              rw [hSk] at hI HTk
              rw [hRk] at hI
              have HLk := Lib.hid (show Sk.length ≤ 30000 ∧ Rk.length ≤ 200000 from by
                have e1 : Sk.length = 3 * k := by rw [← hSk, sideF_len, List.length_take]; omega
                refine ⟨by omega, ?_⟩
                rw [← hRk, List.length_append, List.length_append, rowM_len, flatT_length, e1]
                have e2 : (paintL P (rtN T c).1).length ≤ nO := by
                  unfold paintL
                  split
                  · exact Nat.zero_le _
                  · rw [paintF_len, HnO.out]; exact Nat.le_refl _
                have := HnT.out
                omega)
              have HRk := Lib.hid hRk
              have HDl := Lib.hid hdl
              have HTr := Lib.hid ((HT.out wr (HB1b.out.trans (hb9.mono HB1b.out.size))).toTabS)
              have hz9 := hb9.size
              have hki : (k : Int) < (nC : Int) := by omega
              have HI := Lib.hid hI
              have hNx : nextI T (d : Int) = ((Jor.nx d : Nat) : Int) := by simp [nextI, hasC_true (T := T) (c := (d : Int)) (by omega) (by omega)]
              have hPv : prevI T (d : Int) = ((Jor.pv d : Nat) : Int) := by simp [prevI, hasC_true (T := T) (c := (d : Int)) (by omega) (by omega)]
              have HNx := Lib.hid (show Calls Try.prog 63 #[.pointer (some ⟨g, 0, none⟩), .int .i64 (d : Int)] wr fun e w' => e = .returned (.int .i64 ((Jor.nx d : Nat) : Int)) ∧ wr = w' from by rw [← hNx]; exact next_any g N d T wr HTr.out)
              have HPv := Lib.hid (show Calls Try.prog 64 #[.pointer (some ⟨g, 0, none⟩), .int .i64 (d : Int)] wr fun e w' => e = .returned (.int .i64 ((Jor.pv d : Nat) : Int)) ∧ wr = w' from by rw [← hPv]; exact prev_any g N d T wr HTr.out)
              clear hI hrC hSk hRk hb9 hd hkC hdl hNx hPv
              go_upto_region 16 with (first
                | (go_at_call 63; refine HNx.out.mono ?_; rintro e Wp ⟨rfl, rfl⟩)
                | (go_at_call 64; refine HPv.out.mono ?_; rintro e Wp ⟨rfl, rfl⟩))
              have bq := Blk.new wr 3 #[.int .i64 (d : Int), .int .i64 ((Jor.nx d : Nat) : Int), .int .i64 ((Jor.pv d : Nat) : Int)]
              have HI0' := Lib.hid (HI.out.alloc (.cells #[.int .i64 (d : Int), .int .i64 ((Jor.nx d : Nat) : Int), .int .i64 ((Jor.pv d : Nat) : Int)] 3))
              obtain ⟨q, hq⟩ : ∃ q, wr.heap.size = q := ⟨_, rfl⟩
              rw [hq] at bq
              have Hbq := Lib.hid bq
              have hqz : w1.heap.size ≤ q := by omega
              have hqI : q < (wr.alloc (.cells #[.int .i64 (d : Int), .int .i64 ((Jor.nx d : Nat) : Int), .int .i64 ((Jor.pv d : Nat) : Int)] 3)).heap.size := bq.lt
              have Hne0 := Lib.hid (show vR'.ownBlock ≠ some q ∧ vK'.ownBlock ≠ some q from ⟨fun e => by have := (HI.out.rR.lt q e).2; omega, fun e => by have := (HI.out.rK.lt q e).2; omega⟩)
              rw [hq]
              generalize wr.alloc _ = Wq at *
              clear HI bq HNx HPv HTr hcC hqI hz9
              go_loopg [79] (3) (fun gj i w9 => ∃ j : Nat, j ≤ 3 ∧ gj = 3 - j ∧ i = .int .i64 j ∧ ∃ vR vK, FrSt w1 w9 x (nO : Int) (.slice aT nT cT) (.slice aO nO cO) (Rk ++ ([K.getD d 0, K.getD (Jor.nx d) 0, K.getD (Jor.pv d) 0].take j)) (paintL P (rtN T c).1) (Sk ++ ([K.getD d 0, K.getD (Jor.nx d) 0, K.getD (Jor.pv d) 0].take j)) vR vP2 vK ∧ Blk w9 q 3 #[.int .i64 (d : Int), .int .i64 ((Jor.nx d : Nat) : Int), .int .i64 ((Jor.pv d : Nat) : Int)] ∧ vR.ownBlock ≠ some q ∧ vK.ownBlock ≠ some q)
              case atStart => exact ⟨0, Nat.zero_le _, rfl, rfl, _, _, by simpa using HI0'.out, Hbq.out, Hne0.out⟩
              case round =>
                rename World => w9
                obtain ⟨j, hj, hgj, rfl, vR9, vK9, hI9, hbq9, hneR, hneK⟩ := hrel
                have HneR := Lib.hid hneR
                have HneK := Lib.hid hneK
                clear hneR hneK
                by_cases hlt9 : j < 3
                · obtain ⟨e, he1, he2, he3⟩ : ∃ e : Nat, e < 3 * T.length ∧ w9.cell? ⟨q, j, none⟩ = some (.int .i64 (e : Int)) ∧ [K.getD d 0, K.getD (Jor.nx d) 0, K.getD (Jor.pv d) 0].take (j + 1) = [K.getD d 0, K.getD (Jor.nx d) 0, K.getD (Jor.pv d) 0].take j ++ [K.getD e 0] := by
                    have h9 := HDl.out
                    rcases (by omega : j = 0 ∨ j = 1 ∨ j = 2) with rfl | rfl | rfl
                    · exact ⟨d, h9, hbq9.cell 0, rfl⟩
                    · exact ⟨Jor.nx d, nx_lt3 h9, hbq9.cell 1, rfl⟩
                    · exact ⟨Jor.pv d, pv_lt3 h9, hbq9.cell 2, rfl⟩
                  have heK : e < nK := by rw [HKN.out]; exact he1
                  have hKr := HKr.out w9 (HB1b.out.trans (hI9.bel.mono HB1b.out.size))
                  obtain ⟨a', c', e', -, hr3⟩ := hKr
                  rw [HnK.out] at e'
                  cases e'
                  obtain ⟨bK, oK, rfl, hbK, s0⟩ := hr3 e (K.getD e 0) (by rw [List.getElem?_eq_getElem (by rw [HnK.out]; exact heK)]; simp [List.getD, List.getElem?_eq_getElem (show e < K.length by rw [HnK.out]; exact heK)])
                  generalize hkd : K.getD e 0 = kd at *
                  have HKe := Lib.hid (show K[e]? = some kd from by rw [List.getElem?_eq_getElem (show e < K.length by rw [HnK.out]; exact heK), ← hkd]; simp [List.getD, List.getElem?_eq_getElem (show e < K.length by rw [HnK.out]; exact heK)])
                  have HT9 := Lib.hid he3
                  obtain ⟨Lj, hLj⟩ : ∃ Lj, [K.getD d 0, K.getD (Jor.nx d) 0, K.getD (Jor.pv d) 0].take j = Lj := ⟨_, rfl⟩
                  have hLl : Lj.length ≤ 3 := by rw [← hLj, List.length_take]; simp; omega
                  rw [hLj] at hI9 HT9
                  obtain ⟨R9, hR9⟩ : ∃ R9, Rk ++ Lj = R9 := ⟨_, rfl⟩
                  obtain ⟨S9, hS9⟩ : ∃ S9, Sk ++ Lj = S9 := ⟨_, rfl⟩
                  rw [hR9, hS9] at hI9
                  have HL9 := Lib.hid (show S9.length ≤ 30003 ∧ R9.length ≤ 200003 from by rw [← hR9, ← hS9, List.length_append, List.length_append]; have := HLk.out; omega)
                  have HR9 := Lib.hid hR9
                  have HS9 := Lib.hid hS9
                  have HLj := Lib.hid hLj
                  obtain ⟨lb, b0, b1, b2, b3⟩ := fourF (HBb1.out.below hI9.bel HBb1.out.lt)
                  obtain ⟨lx, y0, f0, y1, f1, y2, f2, y3, f3, y4, f4, y5, f5⟩ := sixF hI9.bx
                  have heI : (e : Int) < (nK : Int) := by omega
                  have hjI : (j : Int) < 3 := by omega
                  have HI9 := Lib.hid hI9
                  have Hbq9 := Lib.hid hbq9
                  clear hI9 hbq9 he1 he3 hr3 hkd hLj hR9 hS9 hLl HI0'
                  go_upto_region 18 with fail
                  have hba := HI9.out.alloc (.cells #[.int .i64 kd] 3)
                  have HIa := Lib.hid hba.drew
                  have hna : Blk (w9.alloc (.cells #[.int .i64 kd] 3)).drew w9.heap.size 3 #[.int .i64 kd] := (Blk.new w9 _ _).drew
                  have HNa := Lib.hid (show ∀ (j : Nat) (u : Value), [Value.int .i64 kd][j]? = some u → (w9.alloc (.cells #[.int .i64 kd] 3)).drew.cell? ((⟨w9.heap.size, 0, none⟩ : Addr).add j) = some u from World.news_of_block hna)
                  have HrKa := Lib.hid HIa.out.rK
                  have hbea := HIa.out.bel.size
                  have c9 : S9.length + 1 ≤ maxLen := by have := HL9.out; unfold maxLen; omega
                  have c8 : (S9.length + 1) * 8 ≤ 140737488355328 := by have := HL9.out; omega
                  have Hbqa := Lib.hid ((Hbq9.out.alloc (.cells #[.int .i64 kd] 3)).drew)
                  have HltK := Lib.hid (fun (j9 : Nat) (e9 : vK9.ownBlock = some j9) => (HI9.out.rK.lt j9 e9).2)
                  have HltR := Lib.hid (fun (j9 : Nat) (e9 : vR9.ownBlock = some j9) => (HI9.out.rR.lt j9 e9).2)
                  clear hba hna
                  go_cut [] (fun W => ∃ vK, FrSt w1 W x (nO : Int) (.slice aT nT cT) (.slice aO nO cO) R9 (paintL P (rtN T c).1) (S9 ++ [kd]) vR9 vP2 vK ∧ Blk W q 3 #[.int .i64 (d : Int), .int .i64 ((Jor.nx d : Nat) : Int), .int .i64 ((Jor.pv d : Nat) : Int)] ∧ vK.ownBlock ≠ some q)
                  case first =>
                    go_region_law
                      ((first
                      | (refine step_append_lies (w9.alloc (.cells #[.int .i64 kd] 3)).drew (by rfl) (.tmp 85) (.tmp 91) 35 (by rfl) w1.heap.size 3 i2 _ 1 8 Try.underlying35 hj2 hz0 hz1 hz2 (by rfl) (by decide) vK9 S9.length (intsV S9) (by rfl) HrKa.out ⟨w9.heap.size, 0, none⟩ 1 1 [.int .i64 kd] (by rfl) (by rfl) HNa.out (by simp [Value.oneCell']) (by decide) c9 c8 hbea _ rfl ?_; go_loud (intro g9 cap9 W10 hr9 hg9 hat9 hlt9; have e9 : intsV (S9 ++ [kd]) = intsV S9 ++ [.int .i64 kd] := (intsV_one1 S9 kd); have h9r : W10.ownsRow w1.heap.size 3 1 (.slice (some ⟨g9, 0, none⟩) (S9.length + 1) cap9) (S9 ++ [kd]).length (intsV (S9 ++ [kd])) := (own_len1 e9 hr9); have h10 := HIa.out.appK hg9 (v4 := .slice (some ⟨g9, 0, none⟩) (S9.length + 1) cap9) rfl h9r (or_le hat9); obtain ⟨lxA, z0, q0, z1, q1, z2, q2, z3, q3, z4, q4, z5, q5⟩ := sixF h10.1; have HF10 := Lib.hid h10.2; have hbq9' : Blk W10 q 3 #[.int .i64 (d : Int), .int .i64 ((Jor.nx d : Nat) : Int), .int .i64 ((Jor.pv d : Nat) : Int)] := Hbqa.out.grown hg9 (fun e => HneK.out e.symm); have Hbq10 := Lib.hid (far_q h10.1 hbq9' 4 (.slice (some ⟨g9, 0, none⟩) (S9.length + 1) cap9)); have Hnew := Lib.hid (ne_new HneK.out hat9 Hbqa.out.lt (k := S9.length + 1) (c := cap9)); clear hr9 hg9 hat9 hlt9 h10 e9 h9r hbq9'))))
                    all_goals
                      go_wp2_with fail
                      go_meet
                      exact ⟨_, HF10.out, Hbq10.out, Hnew.out⟩
                  case rest =>
                    obtain ⟨vK10, hI10, hbq10, hneK10⟩ := hcut
                    rename World => w10
                    have hsz := hI10.bel.size
                    have HI10 := Lib.hid hI10
                    have Hbq10 := Lib.hid hbq10
                    have HneK10 := Lib.hid hneK10
                    clear hneK10 HIa HNa HrKa hbea c9 c8 Hbqa HltK HltR y0 f0 y1 f1 y2 f2 y3 f3 y4 f4 y5 f5 lx b0 b1 b2 b3 lb s0
                    obtain ⟨lb, b0, b1, b2, b3⟩ := fourF (HBb1.out.below HI10.out.bel HBb1.out.lt)
                    obtain ⟨lx, y0, f0, y1, f1, y2, f2, y3, f3, y4, f4, y5, f5⟩ := sixF HI10.out.bx
                    have hKr := HKr.out w10 (HB1b.out.trans (HI10.out.bel.mono HB1b.out.size))
                    obtain ⟨a', c', e', -, hr3⟩ := hKr
                    rw [HnK.out] at e'
                    cases e'
                    obtain ⟨bK2, oK2, eK2, hbK2, s0⟩ := hr3 e kd HKe.out
                    cases eK2
                    have hba := HI10.out.alloc (.cells #[.int .i64 kd] 3)
                    have HIa := Lib.hid hba.drew
                    have hna : Blk (w10.alloc (.cells #[.int .i64 kd] 3)).drew w10.heap.size 3 #[.int .i64 kd] := (Blk.new w10 _ _).drew
                    have HNa := Lib.hid (show ∀ (j : Nat) (u : Value), [Value.int .i64 kd][j]? = some u → (w10.alloc (.cells #[.int .i64 kd] 3)).drew.cell? ((⟨w10.heap.size, 0, none⟩ : Addr).add j) = some u from World.news_of_block hna)
                    have HrRa := Lib.hid HIa.out.rR
                    have hbea := HIa.out.bel.size
                    have c9 : R9.length + 1 ≤ maxLen := by have := HL9.out; unfold maxLen; omega
                    have c8 : (R9.length + 1) * 8 ≤ 140737488355328 := by have := HL9.out; omega
                    have Hbqa := Lib.hid ((Hbq10.out.alloc (.cells #[.int .i64 kd] 3)).drew)
                    clear hba hna hr3
                    go_upto_region 19 with fail
                    go_region_law
                      ((first
                      | (refine step_append_lies (w10.alloc (.cells #[.int .i64 kd] 3)).drew (by rfl) (.tmp 96) (.tmp 102) 35 (by rfl) w1.heap.size 3 i2 _ 1 8 Try.underlying35 hj2 hz0 hz1 hz2 (by rfl) (by decide) vR9 R9.length (intsV R9) (by rfl) HrRa.out ⟨w10.heap.size, 0, none⟩ 1 1 [.int .i64 kd] (by rfl) (by rfl) HNa.out (by simp [Value.oneCell']) (by decide) c9 c8 hbea _ rfl ?_; go_loud (intro g9 cap9 W10 hr9 hg9 hat9 hlt9; have e9 : intsV (R9 ++ [kd]) = intsV R9 ++ [.int .i64 kd] := (intsV_one1 R9 kd); have h9r : W10.ownsRow w1.heap.size 3 1 (.slice (some ⟨g9, 0, none⟩) (R9.length + 1) cap9) (R9 ++ [kd]).length (intsV (R9 ++ [kd])) := (own_len1 e9 hr9); have h10 := HIa.out.appR hg9 (v4 := .slice (some ⟨g9, 0, none⟩) (R9.length + 1) cap9) rfl h9r (or_le hat9); obtain ⟨lxA, z0, q0, z1, q1, z2, q2, z3, q3, z4, q4, z5, q5⟩ := sixF h10.1; have HF10 := Lib.hid h10.2; have hbq9' : Blk W10 q 3 #[.int .i64 (d : Int), .int .i64 ((Jor.nx d : Nat) : Int), .int .i64 ((Jor.pv d : Nat) : Int)] := Hbqa.out.grown hg9 (fun e => HneR.out e.symm); have Hbq11 := Lib.hid (far_q h10.1 hbq9' 0 (.slice (some ⟨g9, 0, none⟩) (R9.length + 1) cap9)); have Hnew := Lib.hid (ne_new HneR.out hat9 Hbqa.out.lt (k := R9.length + 1) (c := cap9)); clear hr9 hg9 hat9 hlt9 h10 e9 h9r hbq9'))))
                    all_goals
                      have HI11 := Lib.hid (show FrSt w1 _ x (nO : Int) (.slice aT nT cT) (.slice aO nO cO) (Rk ++ ([K.getD d 0, K.getD (Jor.nx d) 0, K.getD (Jor.pv d) 0].take (j + 1))) (paintL P (rtN T c).1) (Sk ++ ([K.getD d 0, K.getD (Jor.nx d) 0, K.getD (Jor.pv d) 0].take (j + 1))) _ vP2 vK10 from by
                        rw [HT9.out, ← List.append_assoc, ← List.append_assoc, HR9.out, HS9.out]
                        exact HF10.out)
                      clear y0 f0 y1 f1 y2 f2 y3 f3 y4 f4 y5 f5 lx b0 b1 b2 b3 lb s0
                      go_wp2
                      go_roundg (3 - (j + 1))
                      case measure => omega
                      case rel => exact ⟨j + 1, by omega, rfl, by go_num, _, _, HI11.out, Hbq11.out, Hnew.out, HneK10.out⟩
                · obtain rfl : j = 3 := by omega
                  have HI11 := Lib.hid (show FrSt w1 w9 x (nO : Int) (.slice aT nT cT) (.slice aO nO cO) (rowM (nO : Int) (rtN T c).2 ++ (flatT (paintL P (rtN T c).1) ++ sideF K ((rtL T c).take (k + 1)))) (paintL P (rtN T c).1) (sideF K ((rtL T c).take (k + 1))) vR9 vP2 vK9 from by
                    rw [HTk.out, ← List.append_assoc, ← List.append_assoc, List.append_assoc (rowM (nO : Int) (rtN T c).2), HRk.out]
                    exact hI9)
                  clear hI9 hbq9 HI0'
                  go_wp2
                  go_roundg (nC - (k + 1))
                  case measure => omega
                  case rel => exact ⟨k + 1, by omega, rfl, by go_num, _, _, HI11.out⟩
            · obtain rfl : k = nC := by omega
              have HI := Lib.hid (show FrSt w1 wr x (nO : Int) (.slice aT nT cT) (.slice aO nO cO) (rowM (nO : Int) (rtN T c).2 ++ (flatT (paintL P (rtN T c).1) ++ sideL K (rtL T c))) (paintL P (rtN T c).1) (sideL K (rtL T c)) vR' vP2 vK' from by
                have e : sideL K (rtL T c) = sideF K ((rtL T c).take k) := by unfold sideL; rw [if_neg HK0.out, List.take_of_length_le (by rw [HnC.out]; exact Nat.le_refl _)]
                rw [e]
                exact hI)
              clear hI
              go_wp2
              go_meet
              exact ⟨_, _, HI.out⟩
      case rest =>
        obtain ⟨vR3, vK3, hF4⟩ := hcut
        rename World => W4
        obtain ⟨aR9, cR9, rfl⟩ := ownsRow_slice hF4.rR
        obtain ⟨aP9, cP9, rfl⟩ := ownsRow_slice hF4.rP
        obtain ⟨aK9, cK9, rfl⟩ := ownsRow_slice hF4.rK
        have HF4 := Lib.hid hF4
        have hBr4 := (HBr.out.below HB1.out HBr.out.lt).below hF4.bel (by have := HBr.out.lt; have := HB1.out.size; omega)
        have HBr4 := Lib.hid hBr4
        obtain ⟨lx, y0, f0, y1, f1, y2, f2, y3, f3, y4, f4, y5, f5⟩ := sixF hF4.bx
        obtain ⟨lr, z0, q0, z1, q1, z2, q2, z3, q3, z4, q4, z5, q5⟩ := sixF hBr4
        have hxr : x ≠ w.heap.size + 1 := by have := HBr.out.lt; have := HB1.out.size; omega
        clear hF4 hBr4
        generalize hnR : (rowM (nO : Int) (rtN T c).2 ++ (flatT (paintL P (rtN T c).1) ++ sideL K (rtL T c))).length = nR at *
        generalize hnP9 : (paintL P (rtN T c).1).length = nP9 at *
        generalize hnK9 : (sideL K (rtL T c)).length = nK9 at *
        have HnR := Lib.hid hnR
        have HnP9 := Lib.hid hnP9
        have HnK9 := Lib.hid hnK9
        clear hnR hnP9 hnK9
        have hrT4 := own_set6 (.slice aR9 nR cR9) (.int .i64 (nO : Int)) (.slice aT nT cT) (.slice aP9 nP9 cP9) (.slice aK9 nK9 cK9) (.slice aO nO cO) (own_below HrT.out HF4.out.bel) HBr4.out (by decide)
        have hrO4 := own_set6 (.slice aR9 nR cR9) (.int .i64 (nO : Int)) (.slice aT nT cT) (.slice aP9 nP9 cP9) (.slice aK9 nK9 cK9) (.slice aO nO cO) (own_below HrO.out HF4.out.bel) HBr4.out (by decide)
        have hrR4 := own_set6 (.slice aR9 nR cR9) (.int .i64 (nO : Int)) (.slice aT nT cT) (.slice aP9 nP9 cP9) (.slice aK9 nK9 cK9) (.slice aO nO cO) HF4.out.rR HBr4.out (by decide)
        have hrP4 := own_set6 (.slice aR9 nR cR9) (.int .i64 (nO : Int)) (.slice aT nT cT) (.slice aP9 nP9 cP9) (.slice aK9 nK9 cK9) (.slice aO nO cO) HF4.out.rP HBr4.out (by decide)
        have hrK4 := own_set6 (.slice aR9 nR cR9) (.int .i64 (nO : Int)) (.slice aT nT cT) (.slice aP9 nP9 cP9) (.slice aK9 nK9 cK9) (.slice aO nO cO) HF4.out.rK HBr4.out (by decide)
        have hbF := below_set6 (.slice aR9 nR cR9) (.int .i64 (nO : Int)) (.slice aT nT cT) (.slice aP9 nP9 cP9) (.slice aK9 nK9 cK9) (.slice aO nO cO) (HB1b.out.trans (HF4.out.bel.mono hw1')) (b := w.heap.size + 1) (by omega)
        have bF := blk_set6 (.slice aR9 nR cR9) (.int .i64 (nO : Int)) (.slice aT nT cT) (.slice aP9 nP9 cP9) (.slice aK9 nK9 cK9) (.slice aO nO cO) HBr4.out
        have HFin := Lib.hid (And.intro hrT4 (And.intro hrO4 (And.intro hrR4 (And.intro hrP4 (And.intro hrK4 hbF)))))
        have HbF := Lib.hid bF
        clear hrT4 hrO4 hrR4 hrP4 hrK4 hbF bF
        go_wp2
        obtain ⟨-, p0, -, p1, -, p2, -, p3, -, p4, -, p5, -⟩ := sixF HbF.out
        unfold set6 at HFin p0 p1 p2 p3 p4 p5
        refine bodyPost_ret (v := .agg #[.slice aR9 nR cR9, .int .i64 (nO : Int), .slice aT nT cT, .slice aP9 nP9 cP9, .slice aK9 nK9 cK9, .slice aO nO cO]) (by simp [results, Try.results84, go_sem, p0, p1, p2, p3, p4, p5]) rfl ?_
        obtain ⟨hrT4, hrO4, hrR4, hrP4, hrK4, hbF⟩ := HFin.out
        refine ⟨_, rfl, ⟨.slice aR9 nR cR9, .slice aT nT cT, .slice aP9 nP9 cP9, .slice aK9 nK9 cK9, .slice aO nO cO, ?_, ?_, ?_, ?_, ?_, ?_⟩, hbF⟩
        · have e9 : (fromM T P K c).N = (nO : Int) := by show (((rtN T c).1.length : Nat) : Int) = _; rw [HnO.out]
          rw [e9]
        · have e9 : (fromM T P K c).row = rowM (nO : Int) (rtN T c).2 ++ (flatT (paintL P (rtN T c).1) ++ sideL K (rtL T c)) := by rw [← HnO.out]; rfl
          rw [e9]
          exact own_lower hrR4 hw1'
        · show World.ownsRow _ _ _ _ _ (rtN T c).2.length (ws3 (rtN T c).2)
          rw [HnT.out]
          exact own_lower hrT4 (by simp; omega)
        · exact own_lower hrP4 hw1'
        · exact own_lower hrK4 hw1'
        · show World.ownsRow _ _ _ _ _ (rtN T c).1.length _
          rw [HnO.out]
          exact own_lower hrO4 (by simp; omega)
end Go.Proofs.Ytpnkhgjjlionnaa
namespace Go.Proofs.Ytpnkhgjjlionnaa
open Go.RowKit

theorem run_append_any {P : Program} (w : World) (base : Nat) (t ty e : TypeId) (i : TypeInfo) (z : Value) (size bytes : Nat) (ht : P.underlying t = some (.slice e)) (hi : P.info? e = some i) (hz : i.zero = some z)
    (hsize : i.size = size) (hby : i.bytes = bytes) (hzs : z.cells.size = size) (hsz : 0 < size) (v : Value) (n : Nat) (xs : List Value) (hown : w.ownsRow base e size v n xs)
    (b2 : Nat) (u : Value) (m : Nat) (news : List Value) (hsrc : w.ownsRow b2 e size u m news) (h1 : ∀ y ∈ news, y.oneCell' = true) (h63 : n + m ≤ maxLen) (hbytes : (n + m) * bytes ≤ 140737488355328) (hbase : base ≤ w.heap.size) :
    ∃ v' w', (Builtin.append_ #[t, t] ty #[v, u]).run P w = .ok v' w' ∧ w'.ownsRow base e size v' (n + m) (xs ++ news) ∧ w.grownBy w' v.ownBlock ∧ (v'.ownBlock = v.ownBlock ∨ v'.ownBlock = some w.heap.size) := by
  rcases hsrc.2 with ⟨e0, e1⟩ | ⟨g, cap, cur, e0, hb, hg, hc1, hc2, hc3, hc4⟩
  · subst e0
    have hm : m = 0 := e1
    subst hm
    have hn : news = [] := List.eq_nil_of_length_eq_zero (by rw [hsrc.1]; simp)
    subst hn
    refine ⟨v, w, ?_, by simpa using hown, World.grownBy.refl _ _, .inl rfl⟩
    obtain ⟨b, len, c, ev, hle⟩ : ∃ b len c, v = .slice b len c ∧ len ≤ c := by
      rcases hown.2 with ⟨e2, _⟩ | ⟨g, cap, cur, e2, _, _, hc, _⟩
      · exact ⟨_, _, _, e2, Nat.le_refl _⟩
      · exact ⟨_, _, _, e2, hc⟩
    subst ev
    exact run_append_nothing w t t ty e i ht hi b len c hle _ (Src.ofNil w ht 0)
  · subst e0
    have hcell : ∀ j y, news[j]? = some y → w.cell? ((⟨g, 0, none⟩ : Addr).add j) = some y := by
      intro j y hy
      have hj : j < m * size := by
        have := (List.getElem?_eq_some_iff.1 hy).1
        rw [hsrc.1] at this
        exact this
      have hadd : (⟨g, 0, none⟩ : Addr).add j = ⟨g, j, none⟩ := by unfold Addr.add; split <;> simp_all
      rw [hadd, hsrc.cellAt j hj, hy]
    obtain ⟨v', w', hr, h2, h3, -, h5⟩ := run_append_own_at (P := P) w base t ty e i z size bytes ht hi hz hsize hby hzs hsz v n xs hown ⟨g, 0, none⟩ m cap news hsrc.1 hcell h1 h63 hbytes hbase
    exact ⟨v', w', hr, h2, h3, h5⟩
theorem wp_append_any {P : Program} {w : World} {o : Oper} {a : Act} {K : Act → World → Prop} {Q : Exit → Act → World → Prop} (s x : Operand) (t : TypeId)
    (ho : o.op = .call { callee := .builtin .append, args := #[s, x], argTypes := #[t, t] })
    (base : Nat) (e : TypeId) (i : TypeInfo) (z : Value) (size bytes : Nat) (ht : P.underlying t = some (.slice e)) (hi : P.info? e = some i) (hz : i.zero = some z)
    (hsize : i.size = size) (hby : i.bytes = bytes) (hzs : z.cells.size = size) (hsz : 0 < size)
    (v : Value) (n : Nat) (xs : List Value) (hs : a.eval s = v) (hown : w.ownsRow base e size v n xs)
    (b2 : Nat) (u : Value) (m : Nat) (news : List Value) (hx : a.eval x = u) (hsrc : w.ownsRow b2 e size u m news) (h1 : ∀ y ∈ news, y.oneCell' = true) (h63 : n + m ≤ maxLen) (hbytes : (n + m) * bytes ≤ 140737488355328) (hbase : base ≤ w.heap.size)
    (h : ∀ v' w', w'.ownsRow base e size v' (n + m) (xs ++ news) → w.grownBy w' v.ownBlock → (v'.ownBlock = v.ownBlock ∨ v'.ownBlock = some w.heap.size) → K (a.put o.dst v') w') : o.wp P a w K Q := by
  obtain ⟨v', w', hr, h2, h3, h4⟩ := run_append_any (P := P) w base t o.type e i z size bytes ht hi hz hsize hby hzs hsz v n xs hown b2 u m news hsrc h1 h63 hbytes hbase
  unfold Oper.wp execOp
  simp only [ho, resolve, invoke, builtin, Sem.run_bind, Sem.run_pure, Result.andThen_ok, List.map_toArray, List.map_cons, List.map_nil, hs, hx, hr]
  exact h v' w' h2 h3 h4
/-- At the head of a list of operations. -/
theorem wpList_append_any {P : Program} (w : World) {ops : Array Oper} {rest : List Oper} {o : Oper} {a : Act} {Q : Exit → Act → World → Prop} (hgd : o.guard = none) (s x : Operand) (t : TypeId)
    (ho : o.op = .call { callee := .builtin .append, args := #[s, x], argTypes := #[t, t] })
    (base : Nat) (e : TypeId) (i : TypeInfo) (z : Value) (size bytes : Nat) (ht : P.underlying t = some (.slice e)) (hi : P.info? e = some i) (hz : i.zero = some z)
    (hsize : i.size = size) (hby : i.bytes = bytes) (hzs : z.cells.size = size) (hsz : 0 < size)
    (v : Value) (n : Nat) (xs : List Value) (hs : a.eval s = v) (hown : w.ownsRow base e size v n xs)
    (b2 : Nat) (u : Value) (m : Nat) (news : List Value) (hx : a.eval x = u) (hsrc : w.ownsRow b2 e size u m news) (h1 : ∀ y ∈ news, y.oneCell' = true) (h63 : n + m ≤ maxLen) (hbytes : (n + m) * bytes ≤ 140737488355328) (hbase : base ≤ w.heap.size)
    (h : ∀ v' w', w'.ownsRow base e size v' (n + m) (xs ++ news) → w.grownBy w' v.ownBlock → (v'.ownBlock = v.ownBlock ∨ v'.ownBlock = some w.heap.size) → wpList P ops Q rest (a.put o.dst v') w') : wpList P ops Q (o :: rest) a w :=
  wpList_plain hgd fun _ hK => wp_append_any s x t ho base e i z size bytes ht hi hz hsize hby hzs hsz v n xs hs hown b2 u m news hx hsrc h1 h63 hbytes hbase fun v' w' h2 h3 h4 => hK _ _ (h v' w' h2 h3 h4)
end Go.Proofs.Ytpnkhgjjlionnaa
namespace Go.Proofs.Ytpnkhgjjlionnaa
open Go.RowKit Go.Maps Go.Sort

theorem infoRc : (Try.prog.info? 142).map (fun i => (i.zero, i.size, i.bytes)) = some (some (.agg #[.slice none 0 0, .int .i64 0, .slice none 0 0, .slice none 0 0, .slice none 0 0, .slice none 0 0]), 6, 128) := by kernel_rfl
theorem infoSoup : (Try.prog.info? 24).map (fun i => (i.zero, i.size, i.bytes)) = some (some (.agg #[.int .i64 0, .slice none 0 0]), 2, 32) := by kernel_rfl
/-- The best so far, as records. -/
def bestR (T P : List Tr) (K out : List Int) (m k : Nat) : List (Option RecM) := (bestK (rowC T P K) out m k).map (Option.map (fromM T P K))
theorem bestR_zero (T P : List Tr) (K out : List Int) (m : Nat) : bestR T P K out m 0 = List.replicate m none := by simp [bestR, bestK]
theorem bestR_len (T P : List Tr) (K out : List Int) (m k : Nat) : (bestR T P K out m k).length = m := by simp [bestR, bestK_len]
theorem bestR_get {T P : List Tr} {K out : List Int} {m k n : Nat} (hn : n < m) : (bestR T P K out m k)[n]? = some (((bestK (rowC T P K) out m k).getD n none).map (fromM T P K)) := by
  have hl : n < (bestK (rowC T P K) out m k).length := by rw [bestK_len]; exact hn
  unfold bestR
  rw [List.getElem?_map, List.getElem?_eq_getElem hl]
  simp [List.getD, List.getElem?_eq_getElem hl]
/-- One corner more: it is put, or not. -/
theorem bestR_put {T P : List Tr} {K out : List Int} {m k n : Nat} (hn : at_ out (k / 3) = (n : Int)) (h : pickC (rowC T P K) ((bestK (rowC T P K) out m k).getD n none) k = some k) : bestR T P K out m (k + 1) = (bestR T P K out m k).set n (some (fromM T P K k)) := by
  unfold bestR
  rw [bestK_succ]
  unfold bestS
  rw [hn, Int.toNat_natCast, h, List.map_set]
  rfl
theorem bestR_keep {T P : List Tr} {K out : List Int} {m k n : Nat} (hn : at_ out (k / 3) = (n : Int)) (h : pickC (rowC T P K) ((bestK (rowC T P K) out m k).getD n none) k = (bestK (rowC T P K) out m k).getD n none) : bestR T P K out m (k + 1) = bestR T P K out m k := by
  unfold bestR
  rw [bestK_succ]
  unfold bestS
  rw [hn, Int.toNat_natCast, h]
  congr 1
  apply List.ext_getElem?
  intro j
  rw [List.getElem?_set]
  split
  · subst j
    split
    · rename_i hl
      simp [List.getD, List.getElem?_eq_getElem hl]
    · rename_i hl
      rw [List.getElem?_eq_none (by omega)]
  · rfl
theorem bestR_end {T P : List Tr} {K out : List Int} {m : Nat} (h : Shl T out) (hm : HasP T out m) : bestR T P K out m (3 * T.length) = (recsM T P K out m).map some := by
  apply List.ext_getElem?
  intro n
  by_cases hn : n < m
  · have h1 := bestK_at (rw_ := rowC T P K) (out := out) (m := m) (k := 3 * T.length) (fun c hc => h.nn (c / 3) (by omega)) hn
    rw [bestR_get hn]
    simp only [List.getD, h1, Option.getD_some, (bestC_ok (P := P) (K := K) hm hn).1]
    simp [recsM, hn]
  · rw [List.getElem?_eq_none (by rw [bestR_len]; omega), List.getElem?_eq_none (by simp [recsM]; omega)]
theorem cntF_ge {out : List Int} : ∀ (k : Nat), k ≤ out.length → ∀ j, j < k → at_ out j + 1 ≤ cntL (out.take k)
  | 0, _, j, hj => by omega
  | k + 1, hk, j, hj => by
    rw [cntL_take (j := k) (out := out) (by omega)]
    by_cases e : j = k
    · subst e
      omega
    · have := cntF_ge (out := out) k (by omega) j (by omega)
      omega
theorem cntF_lt {out : List Int} {j : Nat} (hj : j < out.length) : at_ out j < cntL out := by
  have := cntF_ge out.length (Nat.le_refl _) j hj
  rw [List.take_length] at this
  omega
theorem below_dnF {B : Nat} {w a : World} (h : Below B w a) (n : Nat) : Below B w (a.drewN n) := ⟨h.os, h.tape, h.output, h.size, h.block⟩
theorem StF.drewN {w1 W : World} {b : Nat} {vO : Value} {out : List Int} {l : List (Option RecM)} (h : StF w1 W b vO out l) (n : Nat) : StF w1 (W.drewN n) b vO out l := h.below (below_dnF (Below.refl _ _) n)
theorem StF.getN {w1 W : World} {b n : Nat} {vO : Value} {out : List Int} {l : List (Option RecM)} (h : StF w1 W b vO out l) (hn : l[n]? = some none) : W.cell? ⟨b, n * 6, none⟩ = some (.slice none 0 0) := (h.get hn).2.2
theorem StF.getS {w1 W : World} {b n : Nat} {vO : Value} {out : List Int} {l : List (Option RecM)} {r : RecM} (h : StF w1 W b vO out l) (hn : l[n]? = some (some r)) : ∃ a c, W.cell? ⟨b, n * 6, none⟩ = some (.slice a r.row.length c) ∧ W.ownsRow w1.heap.size 3 1 (.slice a r.row.length c) r.row.length (intsV r.row) := (h.get hn).2.2
theorem RecOwn.row {w : World} {base : Nat} {vR vT vP vK vO : Value} {n : Int} {r : RecM} (h : RecOwn w base #[vR, .int .i64 n, vT, vP, vK, vO] r) : w.ownsRow base 3 1 vR r.row.length (intsV r.row) := by
  obtain ⟨a, b, c, d, e, h0, h1, -⟩ := h
  have : vR = a := by simpa using congrArg (fun x : Array Value => x[0]!) h0
  rw [this]
  exact h1
theorem from_row (T P : List Tr) (K : List Int) {c : Nat} (hc : c < 3 * T.length) : 2 ≤ (fromM T P K c).row.length ∧ (fromM T P K c).row.length ≤ 2 + 15 * T.length := by
  obtain ⟨a, b, d, e, f⟩ := from_len T P K hc
  have h2 := (rtN_lens hc).2.1
  have : (fromM T P K c).row.length = 2 + 3 * (fromM T P K c).T.length + (3 * (fromM T P K c).P.length + (fromM T P K c).K.length) := by
    unfold RecM.row
    rw [List.length_append, rowM_len, List.length_append, flatT_length]
  omega
theorem bestK_lt {rw_ : Nat → List Int} {out : List Int} {m k n d : Nat} (h : (bestK rw_ out m k).getD n none = some d) : d < k := by
  induction k with
  | zero =>
    unfold bestK at h
    simp only [List.range_zero, List.foldl_nil, List.getD] at h
    rw [List.getElem?_replicate] at h
    split at h <;> simp at h
  | succ k ih =>
    rw [bestK_succ] at h
    unfold bestS at h
    rw [List.getD, List.getElem?_set] at h
    split at h
    · rename_i he
      split at h
      · simp only [Option.getD_some] at h
        unfold pickC at h
        split at h
        · injection h with h
          omega
        · rename_i d' hd'
          split at h
          · injection h with h
            omega
          · injection h with h
            subst h
            rw [he] at hd'
            have := ih hd'
            omega
      · simp at h
    · have := ih (by rw [List.getD]; exact h)
      omega
theorem ws3_app (a b : List Tr) : ws3 (a ++ b) = ws3 a ++ ws3 b := by simp [ws3, flatT]
theorem ws3_one (l : List Tr) : ∀ y ∈ ws3 l, y.oneCell' = true := by
  intro y hy
  unfold ws3 at hy
  rw [List.mem_map] at hy
  obtain ⟨t, -, rfl⟩ := hy
  rfl
theorem intsV_app9 (a b : List Int) : intsV (a ++ b) = intsV a ++ intsV b := by simp [intsV]
theorem intsV_one9 (l : List Int) : ∀ y ∈ intsV l, y.oneCell' = true := by
  intro y hy
  unfold intsV at hy
  rw [List.mem_map] at hy
  obtain ⟨t, -, rfl⟩ := hy
  rfl
theorem rec_cell {W : World} {b : Nat} {ys : List RcV} (h : Blk W b 142 (ys.flatMap RcV.enc).toArray) {k : Nat} {y : RcV} (hy : ys[k]? = some y) : ∀ i, i < 6 → W.cell? ⟨b, k * 6 + i, none⟩ = some (y.enc)[i]! := by
  intro i hi
  haveI : Inhabited RcV := ⟨y⟩
  have hl : k < ys.length := (List.getElem?_eq_some_iff.1 hy).1
  rw [h.cell]
  rw [List.getElem?_toArray, flatMap_at enc_len (by decide) ys (k * 6 + i) (by omega)]
  have e1 : (k * 6 + i) / 6 = k := by omega
  have e2 : (k * 6 + i) % 6 = i := by omega
  rw [e1, e2, getElem!_pos ys k hl]
  rw [List.getElem?_eq_getElem hl] at hy
  rw [Option.some.inj hy]
theorem fourG {w : World} {b : Nat} {t : TypeId} {x0 x1 x2 x3 : Value} (h : Blk w b t #[x0, x1, x2, x3]) : b < w.heap.size ∧ w.cell? ⟨b, 0, none⟩ = some x0 ∧ w.frozen? ⟨b, 0, none⟩ = false ∧ w.cell? ⟨b, 1, none⟩ = some x1 ∧ w.frozen? ⟨b, 1, none⟩ = false ∧ w.cell? ⟨b, 2, none⟩ = some x2 ∧ w.frozen? ⟨b, 2, none⟩ = false ∧ w.cell? ⟨b, 3, none⟩ = some x3 ∧ w.frozen? ⟨b, 3, none⟩ = false :=
  ⟨h.lt, h.cell 0, h.frozen 0, h.cell 1, h.frozen 1, h.cell 2, h.frozen 2, h.cell 3, h.frozen 3⟩
section
variable {w w0 : World} {b : Nat} {t : TypeId} {x0 x1 x2 x3 : Value} (y0 y1 y2 y3 : Value)
def set2 (w : World) (b : Nat) (y0 y1 : Value) : World := (w.setCell ⟨b, 0, none⟩ y0).setCell ⟨b, 1, none⟩ y1
def set4 (w : World) (b : Nat) (y0 y1 y2 y3 : Value) : World := (((w.setCell ⟨b, 0, none⟩ y0).setCell ⟨b, 1, none⟩ y1).setCell ⟨b, 2, none⟩ y2).setCell ⟨b, 3, none⟩ y3
theorem blk_set2 (h : Blk w b t #[x0, x1, x2, x3]) : Blk (set2 w b y0 y1) b t #[y0, y1, x2, x3] := by
  have := (h.set_ 0 y0).set_ 1 y1
  simpa [set2] using this
theorem blk_set4 (h : Blk w b t #[x0, x1, x2, x3]) : Blk (set4 w b y0 y1 y2 y3) b t #[y0, y1, y2, y3] := by
  have := (((h.set_ 0 y0).set_ 1 y1).set_ 2 y2).set_ 3 y3
  simpa [set4] using this
theorem own_set2 {base n s : Nat} {e : TypeId} {v : Value} {xs : List Value} {cs : Array Value} (hr : w.ownsRow base e s v n xs) (h : Blk w b t cs) (hne : e ≠ t) : (set2 w b y0 y1).ownsRow base e s v n xs :=
  own_alloc_st (own_alloc_st hr h hne) (h.set_ 0 y0) hne
theorem own_set4 {base n s : Nat} {e : TypeId} {v : Value} {xs : List Value} {cs : Array Value} (hr : w.ownsRow base e s v n xs) (h : Blk w b t cs) (hne : e ≠ t) : (set4 w b y0 y1 y2 y3).ownsRow base e s v n xs :=
  own_alloc_st (own_alloc_st (own_alloc_st (own_alloc_st hr h hne) (h.set_ 0 y0) hne) ((h.set_ 0 y0).set_ 1 y1) hne) (((h.set_ 0 y0).set_ 1 y1).set_ 2 y2) hne
theorem below_set2 {B : Nat} (h : Below B w0 w) (hb : B ≤ b) : Below B w0 (set2 w b y0 y1) :=
  (h.setCell (p := ⟨b, 0, none⟩) hb y0).setCell (p := ⟨b, 1, none⟩) hb y1
theorem below_set4 {B : Nat} (h : Below B w0 w) (hb : B ≤ b) : Below B w0 (set4 w b y0 y1 y2 y3) :=
  (((h.setCell (p := ⟨b, 0, none⟩) hb y0).setCell (p := ⟨b, 1, none⟩) hb y1).setCell (p := ⟨b, 2, none⟩) hb y2).setCell (p := ⟨b, 3, none⟩) hb y3
theorem far_set2 {g : Nat} {u : TypeId} {cs : Array Value} (h : Blk w g u cs) (hne : g ≠ b) : Blk (set2 w b y0 y1) g u cs :=
  (h.far (p := ⟨b, 0, none⟩) hne y0).far (p := ⟨b, 1, none⟩) hne y1
end
theorem rc_fields {w : World} {base : Nat} {y : RcV} (h : RecOwn w base y.enc.toArray y.m) : y.N = y.m.N ∧ w.ownsRow base 61 3 y.vT y.m.T.length (ws3 y.m.T) := by
  obtain ⟨yR, yN, yT, yP, yK, yO, r⟩ := y
  obtain ⟨vR, vT2, vP2, vK2, vO2, e, g1, g2, g3, g4, g5⟩ := h
  dsimp only [RcV.enc] at e g2
  have e2 : [yR, .int .i64 yN, yT, yP, yK, yO] = [vR, .int .i64 r.N, vT2, vP2, vK2, vO2] := by simpa using congrArg Array.toList e
  simp only [List.cons.injEq, Value.int.injEq, true_and, and_true] at e2
  obtain ⟨rfl, rfl, rfl, rfl, rfl, rfl⟩ := e2
  exact ⟨rfl, g2⟩
theorem soups_rd {w5 W : World} {base bx : Nat} {ys : List RcV} {S : List RecM} {P : List Tr} {K O : List Int} {vA vP vK vO : Value} (hA : AcF w5 W bx ys P K O vA vP vK vO) (hys : ys.map (·.m) = S) (hyr : ∀ x ∈ ys, RecOwn w5 base x.enc.toArray x.m) : SoupsRd W vA (soupsM S) := by
  obtain ⟨aA, cA, rfl⟩ := ownsRow_slice hA.rA
  have hl : (soupsM S).length = ys.length := by rw [← hys]; simp [soupsM]
  refine ⟨aA, cA, by rw [hl], fun k N T hk => ?_⟩
  have hky : k < ys.length := by
    have := (List.getElem?_eq_some_iff.1 hk).1
    omega
  obtain ⟨y, hy⟩ : ∃ y, ys[k]? = some y := ⟨ys[k], List.getElem?_eq_getElem hky⟩
  obtain ⟨hN, hT⟩ := rc_fields (hyr y (List.mem_of_getElem? hy))
  have e : (N, T) = (y.m.N, y.m.T) := by
    rw [← hys] at hk
    unfold soupsM at hk
    rw [List.map_map, List.getElem?_map, hy] at hk
    exact (Option.some.inj hk).symm
  injection e with e1 e2
  subst e1
  subst e2
  obtain ⟨gA, capA, eA, -, hgl⟩ := hA.rA.form (by omega)
  cases eA
  haveI : Inhabited RcV := ⟨y⟩
  have hc : ∀ i, i < 2 → W.cell? ⟨gA, k * 2 + i, none⟩ = some ([Value.int .i64 y.N, y.vT][i]!) := by
    intro i hi
    rw [hA.rA.cellAt (k * 2 + i) (by omega), flatMap_at (k := 2) (enc := fun x : RcV => [Value.int .i64 x.N, x.vT]) (fun _ => rfl) (by decide) ys (k * 2 + i) (by omega)]
    have e1 : (k * 2 + i) / 2 = k := by omega
    have e2 : (k * 2 + i) % 2 = i := by omega
    rw [e1, e2, getElem!_pos ys k hky]
    rw [List.getElem?_eq_getElem hky] at hy
    rw [Option.some.inj hy]
  have h0 := hc 0 (by decide)
  have h1 := hc 1 (by decide)
  rw [← hN]
  exact ⟨gA, 0, y.vT, rfl, hgl, by rw [Nat.zero_add]; exact h0, by rw [Nat.zero_add]; exact h1, TrisRd.of_row (own_below hT hA.bel)⟩
set_option maxRecDepth 100000 in
set_option maxHeartbeats 4000000 in
theorem form_any (N : Int) (T P : List Tr) (K : List Int) (vT vP vK : Value) (w : World) (hS : Surf N T) (hTr : TrisRd w vT T) (hP : TrisRd w vP P) (hK : IntsRd w vK K) (hPl : P ≠ [] → (P.length : Int) = N) (hKl : K ≠ [] → K.length = 3 * T.length) (h60 : N ≤ 60) (hl : T.length ≤ 1000) :
    Calls Try.prog 53 #[.agg #[.int .i64 N, vT, vP, vK]] w fun e w' => ∃ (out : List Int) (m : Nat) (vT' vP' vK' vO' : Value), Shl T out ∧ (m : Int) = cntL out ∧ e = .returned (.tuple #[.agg #[.int .i64 (joinM (soupsM (sortM T P K out m))).1, vT', vP', vK'], vO']) ∧
      w'.ownsRow w.heap.size 61 3 vT' (joinM (soupsM (sortM T P K out m))).2.length (ws3 (joinM (soupsM (sortM T P K out m))).2) ∧
      w'.ownsRow w.heap.size 162 3 vP' ((sortM T P K out m).flatMap (·.P)).length (ws3 ((sortM T P K out m).flatMap (·.P))) ∧
      w'.ownsRow w.heap.size 3 1 vK' ((sortM T P K out m).flatMap (·.K)).length (intsV ((sortM T P K out m).flatMap (·.K))) ∧
      w'.ownsRow w.heap.size 3 1 vO' ((sortM T P K out m).flatMap (·.old)).length (intsV ((sortM T P K out m).flatMap (·.old))) ∧ Below w.heap.size w w' := by
  obtain ⟨iR, hR, hr0, hr1, hr2⟩ := info_parts infoRc
  obtain ⟨F, hF⟩ : ∃ F, T.length = F := ⟨_, rfl⟩
  have hB0 : Below w.heap.size w ((w.alloc (.cells #[.int .i64 N, vT, vP, vK] 98)).alloc (.cells #[.int .i64 0, .slice none 0 0, .slice none 0 0, .slice none 0 0] 98)) := ((Below.refl _ _).alloc (Nat.le_refl _) _).alloc (by simp) _
  have hb1 := (Blk.new w 98 #[.int .i64 N, vT, vP, vK]).alloc (.cells #[.int .i64 0, .slice none 0 0, .slice none 0 0, .slice none 0 0] 98)
  have hb2 : Blk ((w.alloc (.cells #[.int .i64 N, vT, vP, vK] 98)).alloc (.cells #[.int .i64 0, .slice none 0 0, .slice none 0 0, .slice none 0 0] 98)) (w.heap.size + 1) 98 #[.int .i64 0, .slice none 0 0, .slice none 0 0, .slice none 0 0] := blk_new_at (by simp)
  have HPr := Lib.hid (fun (W : World) (hW : Below w.heap.size w W) => hP.below hW)
  have HKr := Lib.hid (fun (W : World) (hW : Below w.heap.size w W) => hK.below hW)
  have HN := Lib.hid (new_any N vT T _ (hTr.below hB0) (by omega))
  obtain ⟨aT, cT, rfl, -⟩ := hTr
  have HF := Lib.hid hF
  rw [hF] at HN hl hKl hB0 hb1 hb2 ⊢
  obtain ⟨l1, x0, x1, x2, x3⟩ := fourF hb1
  have HB0 := Lib.hid hB0
  have HB1 := Lib.hid hb1
  have HB2 := Lib.hid hb2
  have HS := Lib.hid hS
  clear hB0 hb1 hb2 hP hK
  go_enter Try.func53, Try.ntmps53
  go_upto_region 2 with (go_at_call 22; go_loud (refine HN.out.mono ?_; rintro e w1 ⟨⟨-, g, rfl, hTab, hg⟩ | ⟨hno, -⟩, hbN⟩; rotate_left; exact absurd HS.out hno; unfold witV))
  have hTab1 := hTab.below ((Below.refl w1.heap.size w1).alloc (Nat.le_refl _) (.cells #[.int .i64 0, .int .i64 0, .int .i64 0] 44))
  have hbW := HB0.out.trans ((hbN.alloc hbN.size (.cells #[.int .i64 0, .int .i64 0, .int .i64 0] 44)).mono HB0.out.size)
  have HB1' := Lib.hid ((HB1.out.below hbN HB1.out.lt).alloc (.cells #[.int .i64 0, .int .i64 0, .int .i64 0] 44))
  have HB2' := Lib.hid ((HB2.out.below hbN HB2.out.lt).alloc (.cells #[.int .i64 0, .int .i64 0, .int .i64 0] 44))
  clear hTab hg hbN x0 x1 x2 x3 l1
  generalize w1.alloc (.cells #[.int .i64 0, .int .i64 0, .int .i64 0] 44) = W1 at *
  have HT := Lib.hid (fun (W : World) (hW : Below W1.heap.size W1 W) => hTab1.below hW)
  have HBW := Lib.hid hbW
  have HC := Lib.hid (count_any g N T W1 hTab1 HS.out.twice)
  have hsz1 := hbW.size
  clear hTab1 hbW
  go_upto_region 3 with (first
    | (go_at_call 46; go_loud (refine HC.out.mono ?_; rintro e w2 ⟨out, rfl, hsh, hlt, hb2⟩; obtain ⟨m, hm⟩ : ∃ m : Nat, cntL out = (m : Int) := ⟨(cntL out).toNat, by have := (cntL_bd (out := out) (m := (T.length : Int)) (fun j hj => by have := hlt j (by rw [← hsh.len]; exact hj); omega) (by omega) out.length (Nat.le_refl _)).1; rw [List.take_length] at this; omega⟩; rw [hm]; have hmP := hsh.hasP hm.symm; have hm20 : m ≤ 20 := (by have := hmP.le HS.out hsh; have := HS.out.n0; omega)))
    | (at_make; refine wpList_make_full _ rfl (.tmp 23) (.tmp 23) 140 rfl W1.heap.size 142 iR _ 6 Try.underlying140 hR hr0 hr1 .i64 .i64 _ _ m rfl rfl rfl rfl (by rw [hr2]; omega) (by unfold maxLen; omega) hb2.size ?_; intro w3 hr3 hg3))
  have hb3 := hb2.grown hg3 hb2.size (fun j e => by cases e)
  rw [made_rc] at hr3
  have HOf := Lib.hid (of_any g N T w3 (HT.out w3 hb3) HS.out.twice)
  have Hsh := Lib.hid hsh
  have HmP := Lib.hid hmP
  have Hm := Lib.hid hm
  have hz23 := hg3.size
  clear hlt hsh hmP hm hg3
  go_wp2_with (go_at_call 45; go_loud (refine HOf.out.mono ?_; rintro e w4 ⟨vO, out', rfl, hro, hsh', -, hb4⟩; rw [Shl.one hsh' Hsh.out, HF.out] at hro; obtain ⟨aO, cO, rfl⟩ := ownsRow_slice hro; clear hsh'))
  generalize hbb : w2.heap.size = b at *
  have HI0 := Lib.hid (show StF W1 w4 b (.slice aO F cO) out (bestR T P K out m (3 * 0)) from by
    rw [Nat.mul_zero, bestR_zero]
    have hol : out.length = F := by rw [Hsh.out.len, HF.out]
    refine StF.first (own_below hr3 hb4) ?_ (hb3.trans (hb4.mono hb3.size))
    rw [hol]
    exact own_lower hro hb3.size)
  clear hr3 hb3 hro hb4 hb2 hbb hz23
  go_loopw [28] (fun i wr => ∃ k : Nat, k ≤ F ∧ i = .int .i64 k ∧ StF W1 wr b (.slice aO F cO) out (bestR T P K out m (3 * k))) (fun i _ => F - (intOf i).toNat)
  case atStart => exact ⟨0, Nat.zero_le _, rfl, HI0.out⟩
  case round =>
    rename World => wr
    obtain ⟨k, hk, rfl, hI⟩ := hrel
    by_cases hlt : k < F
    · have hro := hI.row
      have hol : out.length = F := by rw [Hsh.out.len, HF.out]
      rw [hol] at hro
      obtain ⟨gO, capO, eO, -, -⟩ := hro.form (by omega)
      cases eO
      obtain ⟨n, hn⟩ : ∃ n : Nat, at_ out k = (n : Int) := ⟨(at_ out k).toNat, by have := Hsh.out.nn k (by rw [HF.out]; exact hlt); omega⟩
      have hnm : n < m := by have := cntF_lt (out := out) (j := k) (by omega); rw [Hm.out, hn] at this; omega
      have hcO : wr.cell? ⟨gO, k, none⟩ = some (.int .i64 (n : Int)) := by
        rw [hro.cellAt k (by omega), intsV_at (by omega), hn]
      have HI := Lib.hid hI
      have Hn := Lib.hid hn
      have hki : (k : Int) < (F : Int) := by omega
      have hlk : (k : Int) ≤ 1000 := by omega
      clear hI hro hn hol
      go_wp2
      go_loopw [9] (fun i wx => ∃ j : Nat, j ≤ 3 ∧ i = .int .i64 ((3 * k + j : Nat) : Int) ∧ StF W1 wx b (.slice (some ⟨gO, 0, none⟩) F cO) out (bestR T P K out m (3 * k + j))) (fun i _ => 3 * k + 3 - (intOf i).toNat)
      case atStart => exact ⟨0, by omega, by go_num, HI.out⟩
      case round =>
        rename World => wx
        obtain ⟨j, hj, rfl, hI'⟩ := hrel
        by_cases hj3 : j < 3
        · have hc3 : (3 * k + j) / 3 = k := by omega
          obtain ⟨c, hc⟩ : ∃ c, 3 * k + j = c := ⟨_, rfl⟩
          rw [hc] at hI' hc3 ⊢
          have hcF : c < 3 * T.length := by rw [HF.out]; omega
          have hcc : (c : Int) < 3 * (k : Int) + 3 := by omega
          have hlc : (c : Int) ≤ 3003 := by omega
          have hat : at_ out (c / 3) = (n : Int) := by rw [hc3]; exact Hn.out
          obtain ⟨l1, x0, x1, x2, x3⟩ := fourF (HB1'.out.below hI'.bel HB1'.out.lt)
          have HFr := Lib.hid (from_any g N T wx c N (.slice aT F cT) vP vK P K ⟨_, _, _, rfl⟩ (HPr.out wx (HBW.out.trans (hI'.bel.mono HBW.out.size))) (HKr.out wx (HBW.out.trans (hI'.bel.mono HBW.out.size))) (HT.out wx hI'.bel) hcF hPl (fun h => by rw [HF.out]; exact hKl h))
          have HI' := Lib.hid hI'
          have Hc := Lib.hid hc
          have hz9 := hI'.bel.size
          have Hat := Lib.hid hat
          clear hI' hc hcF hc3 hat
          obtain ⟨r, hr⟩ : ∃ r, fromM T P K c = r := ⟨_, rfl⟩
          rw [hr] at HFr
          have HR := Lib.hid hr
          have hrl := from_row T P K (c := c) (by rw [HF.out]; have := Hc.out; omega)
          rw [hr, HF.out] at hrl
          clear hr
          go_upto_region 10 with (go_at_call 84; go_loud (refine HFr.out.mono ?_; rintro e wF ⟨cs, rfl, ⟨vR, vT2, vP2, vK2, vO2, rfl, hrec⟩, hbF⟩; obtain ⟨aR, cR, rfl⟩ := ownsRow_slice hrec.1; obtain ⟨aT2, cT2, rfl⟩ := ownsRow_slice hrec.2.1; obtain ⟨aP2, cP2, rfl⟩ := ownsRow_slice hrec.2.2.1; obtain ⟨aK2, cK2, rfl⟩ := ownsRow_slice hrec.2.2.2.1; obtain ⟨aO2, cO2, rfl⟩ := ownsRow_slice hrec.2.2.2.2))
          have hrcF : RecOwn wF wx.heap.size #[.slice aR r.row.length cR, .int .i64 r.N, .slice aT2 r.T.length cT2, .slice aP2 r.P.length cP2, .slice aK2 r.K.length cK2, .slice aO2 r.old.length cO2] r := ⟨_, _, _, _, _, rfl, hrec⟩
          have hbA := (Below.refl wF.heap.size wF).alloc (Nat.le_refl _) (.cells #[.slice aR r.row.length cR, .int .i64 r.N, .slice aT2 r.T.length cT2, .slice aP2 r.P.length cP2, .slice aK2 r.K.length cK2, .slice aO2 r.old.length cO2] 142)
          have HRc := Lib.hid ((hrcF.below hbA).lower hz9)
          have hIA := (HI'.out.below hbF).below hbA
          have HIA := Lib.hid hIA
          have bq := Blk.new wF 142 #[.slice aR r.row.length cR, .int .i64 r.N, .slice aT2 r.T.length cT2, .slice aP2 r.P.length cP2, .slice aK2 r.K.length cK2, .slice aO2 r.old.length cO2]
          obtain ⟨lq, y0, g0, y1, g1, y2, g2, y3, g3, y4, g4, y5, g5⟩ := sixF bq
          have hget := hIA.get (bestR_get (T := T) (P := P) (K := K) (out := out) (m := m) (k := c) hnm)
          generalize hWA : wF.alloc (.cells #[.slice aR r.row.length cR, .int .i64 r.N, .slice aT2 r.T.length cT2, .slice aP2 r.P.length cP2, .slice aK2 r.K.length cK2, .slice aO2 r.old.length cO2] 142) = wA at *
          obtain ⟨hfz, hcl, -⟩ := hget
          generalize wF.heap.size = q at *
          clear hrec hrcF hbA hIA bq x0 x1 x2 x3 l1 hWA hbF
          have hni : (n : Int) < (m : Int) := by omega
          have hrI := IntsRd.of_row HRc.out.row rfl
          cases ho : (bestK (rowC T P K) out m c).getD n none with
          | none =>
            have z0 := HIA.out.getN (n := n) (by rw [bestR_get hnm, ho]; rfl)
            have HPut := Lib.hid (show bestR T P K out m (c + 1) = (bestR T P K out m c).set n (some r) from by rw [bestR_put Hat.out (by rw [ho]; rfl), HR.out])
            clear ho hrI
            have q0 := hfz (n * 6)
            have q1 := hfz (n * 6 + 1)
            have q2 := hfz (n * 6 + 2)
            have q3 := hfz (n * 6 + 3)
            have q4 := hfz (n * 6 + 4)
            have q5 := hfz (n * 6 + 5)
            obtain ⟨u1, z1⟩ := hcl 1 (by decide)
            obtain ⟨u2, z2⟩ := hcl 2 (by decide)
            obtain ⟨u3, z3⟩ := hcl 3 (by decide)
            obtain ⟨u4, z4⟩ := hcl 4 (by decide)
            obtain ⟨u5, z5⟩ := hcl 5 (by decide)
            clear hfz hcl
            go_quiet (fail)
            have h9 := (HIA.out.drewN nq).put (n := n) (x := ⟨.slice aR r.row.length cR, r.N, .slice aT2 r.T.length cT2, .slice aP2 r.P.length cP2, .slice aK2 r.K.length cK2, .slice aO2 r.old.length cO2, r⟩) (by rw [bestR_len]; exact hnm) (HRc.out.below (below_dnF (Below.refl _ _) nq))
            unfold set6a at h9
            have HIN := Lib.hid h9
            clear h9
            go_wp2
            go_roundw
            case measure => simp [intOf]; have := Hc.out; omega
            case rel => exact ⟨j + 1, by omega, by rw [show 3 * k + (j + 1) = c + 1 from by have := Hc.out; omega]; go_num, by rw [show 3 * k + (j + 1) = c + 1 from by have := Hc.out; omega, HPut.out]; exact HIN.out⟩
          | some d =>
            obtain ⟨a', c', z0, hrow'⟩ := HIA.out.getS (n := n) (r := fromM T P K d) (by rw [bestR_get hnm, ho]; rfl)
            obtain ⟨row', hrw⟩ : ∃ row', (fromM T P K d).row = row' := ⟨_, rfl⟩
            have hd3 := bestK_lt (rw_ := rowC T P K) (out := out) (m := m) (k := c) (n := n) (d := d) ho
            have hl2 := (from_row T P K (c := d) (by rw [HF.out]; have := Hc.out; omega)).1
            rw [hrw] at z0 hrow' hl2
            have hrI' := IntsRd.of_row hrow' rfl
            obtain ⟨L', hL'⟩ : ∃ L', row'.length = L' := ⟨_, rfl⟩
            have HCmp := Lib.hid (fun (x : Nat) => compareL_any _ _ r.row row' (wA.drewN x) (hrI.below (below_dnF (Below.refl _ _) x)) (hrI'.below (below_dnF (Below.refl _ _) x)))
            rw [hL'] at z0 hl2 HCmp
            have hd0 : ((L' : Int) == 0) = false := by simp; omega
            have hpk : pickC (rowC T P K) (some d) c = if cmpL r.row row' < 0 then some c else some d := by
              show (if cmpL (fromM T P K c).row (fromM T P K d).row < 0 then some c else some d) = _
              rw [HR.out, hrw]
            by_cases hlt2 : cmpL r.row row' < 0
            · have hdc : decide (cmpL r.row row' < 0) = true := by simpa using hlt2
              have HPut := Lib.hid (show bestR T P K out m (c + 1) = (bestR T P K out m c).set n (some r) from by rw [bestR_put Hat.out (by rw [ho, hpk, if_pos hlt2]), HR.out])
              clear ho hrI hrI' hrow' hpk hlt2 hrw hL'
              generalize cmpL r.row row' = cm at *
              have q0 := hfz (n * 6)
              have q1 := hfz (n * 6 + 1)
              have q2 := hfz (n * 6 + 2)
              have q3 := hfz (n * 6 + 3)
              have q4 := hfz (n * 6 + 4)
              have q5 := hfz (n * 6 + 5)
              obtain ⟨u1, z1⟩ := hcl 1 (by decide)
              obtain ⟨u2, z2⟩ := hcl 2 (by decide)
              obtain ⟨u3, z3⟩ := hcl 3 (by decide)
              obtain ⟨u4, z4⟩ := hcl 4 (by decide)
              obtain ⟨u5, z5⟩ := hcl 5 (by decide)
              clear hfz hcl
              go_quiet ((go_at_call 60; exact Calls.quiet_of_same (HCmp.out _)))
              have h9 := (HIA.out.drewN nq).put (n := n) (x := ⟨.slice aR r.row.length cR, r.N, .slice aT2 r.T.length cT2, .slice aP2 r.P.length cP2, .slice aK2 r.K.length cK2, .slice aO2 r.old.length cO2, r⟩) (by rw [bestR_len]; exact hnm) (HRc.out.below (below_dnF (Below.refl _ _) nq))
              unfold set6a at h9
              have HIN := Lib.hid h9
              clear h9
              go_wp2
              go_roundw
              case measure => simp [intOf]; have := Hc.out; omega
              case rel => exact ⟨j + 1, by omega, by rw [show 3 * k + (j + 1) = c + 1 from by have := Hc.out; omega]; go_num, by rw [show 3 * k + (j + 1) = c + 1 from by have := Hc.out; omega, HPut.out]; exact HIN.out⟩
            · have hdc : decide (cmpL r.row row' < 0) = false := by simpa using hlt2
              have HKp := Lib.hid (show bestR T P K out m (c + 1) = bestR T P K out m c from bestR_keep Hat.out (by rw [ho, hpk, if_neg hlt2]))
              clear ho hrI hrI' hrow' hpk hlt2 hrw hL' hfz hcl
              generalize cmpL r.row row' = cm at *
              go_quiet ((go_at_call 60; exact Calls.quiet_of_same (HCmp.out _)))
              have HIN := Lib.hid (HIA.out.drewN nq)
              go_wp2
              go_roundw
              case measure => simp [intOf]; have := Hc.out; omega
              case rel => exact ⟨j + 1, by omega, by rw [show 3 * k + (j + 1) = c + 1 from by have := Hc.out; omega]; go_num, by rw [show 3 * k + (j + 1) = c + 1 from by have := Hc.out; omega, HKp.out]; exact HIN.out⟩
        · obtain rfl : j = 3 := by omega
          have HI' := Lib.hid (show StF W1 wx b (.slice (some ⟨gO, 0, none⟩) F cO) out (bestR T P K out m (3 * (k + 1))) from hI')
          clear hI'
          go_wp2
          go_roundw
          case measure => simp [intOf]; omega
          case rel => exact ⟨k + 1, by omega, by go_num, HI'.out⟩
    · obtain rfl : F = k := by omega
      have hlen : (recsM T P K out m).length = m := by simp [recsM]
      have hRs := hI.all (rs := recsM T P K out m) (by rw [← HF.out]; exact bestR_end Hsh.out HmP.out) (by rw [hlen]; unfold maxLen; omega)
      have hSt : Calls Try.prog 85 #[.slice (some ⟨b, 0, none⟩) m m, .func (.func 86) #[] #[]] wr fun e w' => e = .returned (.tuple #[]) ∧ Recs w' W1.heap.size b (sortM T P K out m) ∧ wr.grownBy w' (some b) := by
        by_cases h0 : 0 < m
        · refine stable_any wr W1.heap.size b m _ hRs hlen hm20 h0 (fun r hr => ?_)
          obtain ⟨n, hn, rfl⟩ := List.mem_map.1 hr
          have := (from_row T P K (bestC_ok (P := P) (K := K) HmP.out (List.mem_range.1 hn)).2.1).2
          rw [HF.out] at this
          omega
        · obtain rfl : m = 0 := by omega
          refine (stable_none _ _ wr).mono ?_
          rintro e w' ⟨rfl, rfl⟩
          exact ⟨rfl, hRs, World.grownBy.refl _ _⟩
      have HSt := Lib.hid hSt
      have HB := Lib.hid (And.intro hI.bel hI.le)
      clear hI hRs hSt hlen
      go_upto_region 14 with (go_at_call 85; go_loud (refine HSt.out.mono ?_; rintro e w5 ⟨rfl, hrs5, hg5⟩))
      have HB5 := Lib.hid (HB.out.1.grown hg5 HB.out.1.size (fun j e => by cases e; exact HB.out.2))
      obtain ⟨hbb, -, ys, hys, hyr, hyB⟩ := hrs5
      have HSl := Lib.hid (sort_len T P K out m)
      have HSf := Lib.hid (And.intro (sort_fits (P := P) (K := K) HS.out.simple (by rw [HF.out]; exact hl) HmP.out) (soups_bd (P := P) (K := K) Hsh.out HmP.out))
      have HfP := Lib.hid (flat_P (P := P) (K := K) Hsh.out HmP.out)
      have HfK := Lib.hid (flat_K (P := P) (K := K) Hsh.out HmP.out)
      have HfO := Lib.hid (flat_O (P := P) (K := K) Hsh.out HmP.out)
      rw [HF.out] at HSf HfP HfK HfO
      generalize hS5 : sortM T P K out m = S at *
      have HS5 := Lib.hid hS5
      clear hS5
      have hyl : ys.length = m := by rw [← HSl.out, ← hys]; simp
      have HY := Lib.hid (And.intro hys (And.intro hyr hyB))
      have hz5 := HB5.out.size
      have hyB5 := hyB.lt
      clear hg5 hys hyr hyB HI0
      obtain ⟨i2, hj2, b20, b21, b22⟩ := info_parts infoInt
      obtain ⟨i3, hj3, b30, b31, b32⟩ := info_parts infoPt
      obtain ⟨i4, hj4, b40, b41, b42⟩ := info_parts infoSoup
      have HA0 := Lib.hid (show AcF w5 (w5.alloc (.cells #[.int .i64 0, .slice none 0 0, .slice none 0 0, .slice none 0 0] 98)) w5.heap.size (ys.take 0) ((S.take 0).flatMap (·.P)) ((S.take 0).flatMap (·.K)) ((S.take 0).flatMap (·.old)) (.slice none 0 0) (.slice none 0 0) (.slice none 0 0) (.slice none 0 0) from
        ⟨Blk.new w5 _ _, World.ownsRow_nil _ _ _ _, World.ownsRow_nil _ _ _ _, World.ownsRow_nil _ _ _ _, World.ownsRow_nil _ _ _ _, fun j e => by simp [Value.ownBlock] at e, (Below.refl _ _).alloc (Nat.le_refl _) _, Nat.le_refl _⟩)
      go_wp2
      go_loopw [12, 13, 73] (fun vO vA i wy => ∃ k : Nat, k ≤ m ∧ i = .int .i64 k ∧ ∃ vP vK, AcF w5 wy w5.heap.size (ys.take k) ((S.take k).flatMap (·.P)) ((S.take k).flatMap (·.K)) ((S.take k).flatMap (·.old)) vA vP vK vO) (fun _ _ i _ => m - (intOf i).toNat)
      case atStart => exact ⟨0, Nat.zero_le _, rfl, _, _, HA0.out⟩
      case round =>
        rename World => wy
        obtain ⟨k, hk, rfl, vP', vK', hA⟩ := hrel
        by_cases hkm : k < m
        · have hky : k < ys.length := by omega
          obtain ⟨y, hy⟩ : ∃ y, ys[k]? = some y := ⟨ys[k], List.getElem?_eq_getElem hky⟩
          have hSk : S[k]? = some y.m := by rw [← HY.out.1, List.getElem?_map, hy]; rfl
          have hrec := HY.out.2.1 y (List.mem_of_getElem? hy)
          have hcell := rec_cell (HY.out.2.2.below hA.bel hyB5) hy
          have HyT := Lib.hid (show ys.take (k + 1) = ys.take k ++ [y] from by
            rw [List.take_succ_eq_append_getElem hky]
            rw [List.getElem?_eq_getElem hky] at hy
            rw [Option.some.inj hy])
          obtain ⟨yR, yN, yT, yP, yK, yO, r⟩ := y
          dsimp only [RcV.enc] at hrec hcell hSk
          obtain ⟨vR, vT2, vP2, vK2, vO2, e, g1, g2, g3, g4, g5⟩ := hrec
          have e2 : [yR, .int .i64 yN, yT, yP, yK, yO] = [vR, .int .i64 r.N, vT2, vP2, vK2, vO2] := by simpa using congrArg Array.toList e
          simp only [List.cons.injEq, Value.int.injEq, true_and, and_true] at e2
          obtain ⟨rfl, rfl, rfl, rfl, rfl, rfl⟩ := e2
          obtain ⟨aR, cR, rfl⟩ := ownsRow_slice g1
          obtain ⟨aT2, cT2, rfl⟩ := ownsRow_slice g2
          obtain ⟨aP, cP, rfl⟩ := ownsRow_slice g3
          obtain ⟨aK, cK, rfl⟩ := ownsRow_slice g4
          obtain ⟨aO2, cO2, rfl⟩ := ownsRow_slice g5
          have z0 : wy.cell? ⟨b, k * 6, none⟩ = some (.slice aR r.row.length cR) := hcell 0 (by decide)
          have z1 : wy.cell? ⟨b, k * 6 + 1, none⟩ = some (.int .i64 r.N) := hcell 1 (by decide)
          have z2 : wy.cell? ⟨b, k * 6 + 2, none⟩ = some (.slice aT2 r.T.length cT2) := hcell 2 (by decide)
          have z3 : wy.cell? ⟨b, k * 6 + 3, none⟩ = some (.slice aP r.P.length cP) := hcell 3 (by decide)
          have z4 : wy.cell? ⟨b, k * 6 + 4, none⟩ = some (.slice aK r.K.length cK) := hcell 4 (by decide)
          have z5 : wy.cell? ⟨b, k * 6 + 5, none⟩ = some (.slice aO2 r.old.length cO2) := hcell 5 (by decide)
          have tP := HfP.out (k + 1)
          have tK := HfK.out (k + 1)
          have tO := HfO.out (k + 1)
          have HtP := Lib.hid (flat_snoc hSk (·.P))
          have HtK := Lib.hid (flat_snoc hSk (·.K))
          have HtO := Lib.hid (flat_snoc hSk (·.old))
          rw [HtP.out, List.length_append] at tP
          rw [HtK.out, List.length_append] at tK
          rw [HtO.out, List.length_append] at tO
          obtain ⟨Pk, hPk⟩ : ∃ Pk, (S.take k).flatMap (·.P) = Pk := ⟨_, rfl⟩
          obtain ⟨Kk, hKk⟩ : ∃ Kk, (S.take k).flatMap (·.K) = Kk := ⟨_, rfl⟩
          obtain ⟨Ok, hOk⟩ : ∃ Ok, (S.take k).flatMap (·.old) = Ok := ⟨_, rfl⟩
          obtain ⟨Yk, hYk⟩ : ∃ Yk, ys.take k = Yk := ⟨_, rfl⟩
          have hYl : Yk.length ≤ 20 := by rw [← hYk, List.length_take]; omega
          rw [hPk, hKk, hOk, hYk] at hA
          rw [hPk] at HtP tP
          rw [hKk] at HtK tK
          rw [hOk] at HtO tO
          rw [hYk] at HyT
          have HA := Lib.hid hA
          have G := Lib.hid (And.intro g3 (And.intro g4 g5))
          have hzy := hA.bel.size
          have hkxl := hA.kx.lt
          have hkmi : (k : Int) < (m : Int) := by omega
          have HAl := Lib.hid ((hA.alloc (.cells #[.slice aR r.row.length cR, .int .i64 r.N, .slice aT2 r.T.length cT2, .slice aP r.P.length cP, .slice aK r.K.length cK, .slice aO2 r.old.length cO2] 142)).alloc (.cells #[.int .i64 r.N, .slice aT2 r.T.length cT2] 24))
          have hq0 := (Blk.new wy 142 #[.slice aR r.row.length cR, .int .i64 r.N, .slice aT2 r.T.length cT2, .slice aP r.P.length cP, .slice aK r.K.length cK, .slice aO2 r.old.length cO2]).alloc (.cells #[.int .i64 r.N, .slice aT2 r.T.length cT2] 24)
          have HQ0 := Lib.hid hq0
          clear hA g1 g2 g3 g4 g5 hcell hy hSk e hPk hKk hOk hYk hq0
          go_upto_region 21 with (at_builtin; go_loud (refine wpList_append_lies _ rfl (.tmp 77) (.tmp 81) 62 rfl w5.heap.size 24 i4 _ 2 32 Try.underlying62 hj4 b40 b41 b42 rfl (by decide) _ _ _ rfl HAl.out.rA ⟨wy.heap.size + 1, 0, none⟩ 1 1 [.int .i64 r.N, .slice aT2 r.T.length cT2] rfl rfl (World.news_of_block (blk_new_at (by simp))) (by simp [Value.oneCell']) (by decide) (by unfold maxLen; omega) (by omega) (by simp; omega) (wy.heap.size + 1 + 1) (by simp) ?_); go_loud (intro g8 cap8 W8 hr8 hg8 hat8 hlt8; have h8 := HAl.out.appA hg8 (ys4 := Yk ++ [⟨.slice aR r.row.length cR, r.N, .slice aT2 r.T.length cT2, .slice aP r.P.length cP, .slice aK r.K.length cK, .slice aO2 r.old.length cO2, r⟩]) (by rw [List.length_append, List.flatMap_append]; exact hr8); have hq8 := HQ0.out.grown hg8 (fun e => own_blk_ne HAl.out.rA HQ0.out (by decide) e.symm); clear hr8 hat8 hlt8))
          have HA8 := Lib.hid h8
          have HQ8 := Lib.hid hq8
          have hqx : wy.heap.size ≠ w5.heap.size := by omega
          obtain ⟨lx, x0, f0, x1, f1, x2, f2, x3, f3⟩ := fourG h8.kx
          obtain ⟨lq, y0, q0, y1, q1, y2, q2, y3, q3, y4, q4, y5, q5⟩ := sixF hq8
          have hz8 := hg8.size
          clear h8 hq8 hg8 z0 z1 z2 z3 z4 z5
          generalize hqq : wy.heap.size = q at *
          clear hqq
          go_upto_region 22 with (at_builtin; go_loud (refine wpList_append_any W8 rfl (.tmp 84) (.tmp 87) 96 rfl w5.heap.size 162 i3 _ 3 24 Try.underlying96 hj3 b30 b31 b32 rfl (by decide) vP' Pk.length (ws3 Pk) rfl HA8.out.rP W1.heap.size (.slice aP r.P.length cP) r.P.length (ws3 r.P) rfl (own_below G.out.1 HA8.out.bel) (ws3_one _) (by unfold maxLen; omega) (by omega) HA8.out.bel.size ?_); go_loud (intro v9 W9 hr9 hg9 hat9; obtain ⟨a9, c9, rfl⟩ := ownsRow_slice hr9; have h9 := HA8.out.appP hg9 (P4 := Pk ++ r.P) (v4 := .slice a9 (Pk.length + r.P.length) c9) (by rw [ws3_app, List.length_append]; exact hr9); have hq9 := (HQ8.out.grown hg9 (fun e => own_blk_ne HA8.out.rP HQ8.out (by decide) e.symm)).far (p := ⟨w5.heap.size, 2, none⟩) hqx (.slice a9 (Pk.length + r.P.length) c9); clear hr9 hat9; obtain ⟨lx', x0', f0', x1', f1', x2', f2', x3', f3'⟩ := fourG h9.1))
          have HA9 := Lib.hid h9.2
          have HQ9 := Lib.hid hq9
          clear x0' f0' x1' f1' x2' f2' x3' f3' lx' lx x0 f0 x1 f1 x2 f2 x3 f3 lq y0 q0 y1 q1 y2 q2 y3 q3 y4 q4 y5 q5 hg9
          generalize W9.setCell _ _ = W9' at *
          obtain ⟨lx, x0, f0, x1, f1, x2, f2, x3, f3⟩ := fourG h9.2.kx
          obtain ⟨lq, y0, q0, y1, q1, y2, q2, y3, q3, y4, q4, y5, q5⟩ := sixF hq9
          clear h9 hq9
          go_upto_region 23 with (at_builtin; go_loud (refine wpList_append_any W9' rfl (.tmp 91) (.tmp 94) 35 rfl w5.heap.size 3 i2 _ 1 8 Try.underlying35 hj2 b20 b21 b22 rfl (by decide) vK' Kk.length (intsV Kk) rfl HA9.out.rK W1.heap.size (.slice aK r.K.length cK) r.K.length (intsV r.K) rfl (own_below G.out.2.1 HA9.out.bel) (intsV_one9 _) (by unfold maxLen; omega) (by omega) HA9.out.bel.size ?_); go_loud (intro v10 W10 hr10 hg10 hat10; obtain ⟨a10, c10, rfl⟩ := ownsRow_slice hr10; have h10 := HA9.out.appK hg10 (K4 := Kk ++ r.K) (v4 := .slice a10 (Kk.length + r.K.length) c10) (by rw [intsV_app9, List.length_append]; exact hr10) hat10; have hq10 := (HQ9.out.grown hg10 (fun e => own_blk_ne HA9.out.rK HQ9.out (by decide) e.symm)).far (p := ⟨w5.heap.size, 3, none⟩) hqx (.slice a10 (Kk.length + r.K.length) c10); clear hr10 hat10; obtain ⟨lx', x0', f0', x1', f1', x2', f2', x3', f3'⟩ := fourG h10.1))
          have HA10 := Lib.hid h10.2
          have HQ10 := Lib.hid hq10
          clear x0' f0' x1' f1' x2' f2' x3' f3' lx' lx x0 f0 x1 f1 x2 f2 x3 f3 lq y0 q0 y1 q1 y2 q2 y3 q3 y4 q4 y5 q5 hg10
          generalize W10.setCell _ _ = W10' at *
          obtain ⟨lq, y0, q0, y1, q1, y2, q2, y3, q3, y4, q4, y5, q5⟩ := sixF hq10
          clear h10 hq10
          go_upto_region 24 with (at_builtin; go_loud (refine wpList_append_any W10' rfl (.tmp 97) (.tmp 99) 35 rfl w5.heap.size 3 i2 _ 1 8 Try.underlying35 hj2 b20 b21 b22 rfl (by decide) _ Ok.length (intsV Ok) rfl HA10.out.rO W1.heap.size (.slice aO2 r.old.length cO2) r.old.length (intsV r.old) rfl (own_below G.out.2.2 HA10.out.bel) (intsV_one9 _) (by unfold maxLen; omega) (by omega) HA10.out.bel.size ?_); go_loud (intro v11 W11 hr11 hg11 hat11; have h11 := HA10.out.appO hg11 (O4 := Ok ++ r.old) (v4 := v11) (by rw [intsV_app9, List.length_append]; exact hr11) hat11; clear hr11 hat11 hg11))
          have HA11 := Lib.hid h11
          clear h11 lq y0 q0 y1 q1 y2 q2 y3 q3 y4 q4 y5 q5
          go_wp2
          go_roundw
          case measure => simp [intOf]; omega
          case rel => exact ⟨k + 1, by omega, by go_num, _, _, by rw [HtP.out, HtK.out, HtO.out, HyT.out]; exact HA11.out⟩
        · obtain rfl : m = k := by omega
          rw [List.take_of_length_le (by omega), List.take_of_length_le (Nat.le_of_eq HSl.out)] at hA
          have hSd := soups_rd hA HY.out.1 HY.out.2.1
          have HJ := Lib.hid (join_any _ (soupsM S) wy hSd (by have : (soupsM S).length = m := by simp [soupsM, HSl.out]
                                                               omega) HSf.out.1 (by have := HSf.out.2.1; omega) (by have := HSf.out.2.2; omega))
          obtain ⟨PP, hPP⟩ : ∃ PP, S.flatMap (·.P) = PP := ⟨_, rfl⟩
          obtain ⟨KK, hKK⟩ : ∃ KK, S.flatMap (·.K) = KK := ⟨_, rfl⟩
          obtain ⟨OO, hOO⟩ : ∃ OO, S.flatMap (·.old) = OO := ⟨_, rfl⟩
          rw [hPP, hKK, hOO] at hA
          have HPe := Lib.hid (And.intro hPP (And.intro hKK hOO))
          clear hPP hKK hOO
          obtain ⟨aA, cA, rfl⟩ := ownsRow_slice hA.rA
          obtain ⟨aP9, cP9, rfl⟩ := ownsRow_slice hA.rP
          obtain ⟨aK9, cK9, rfl⟩ := ownsRow_slice hA.rK
          obtain ⟨aO9, cO9, rfl⟩ := ownsRow_slice hA.rO
          have HA := Lib.hid hA
          have hlx := hA.kx.lt
          obtain ⟨JN, hJN⟩ : ∃ JN, (joinM (soupsM S)).1 = JN := ⟨_, rfl⟩
          obtain ⟨JT, hJT⟩ : ∃ JT, (joinM (soupsM S)).2 = JT := ⟨_, rfl⟩
          rw [hJN, hJT] at HJ
          have HJe := Lib.hid (And.intro hJN hJT)
          clear hA hSd hJN hJT hyl
          go_upto_region 26 with (go_at_call 10; go_loud (refine HJ.out.mono ?_; rintro e wJ ⟨vTJ, rfl, hTJ, hbJ⟩; obtain ⟨aJ, cJ, rfl⟩ := ownsRow_slice hTJ; have hAJ := HA.out.below hbJ; obtain ⟨lx, x0, f0, x1, f1, x2, f2, x3, f3⟩ := fourG hAJ.kx))
          have HAJ := Lib.hid hAJ
          have HTJ := Lib.hid hTJ
          have HbJ := Lib.hid hbJ
          have hk2 := blk_set2 (.int .i64 JN) (.slice aJ JT.length cJ) hAJ.kx
          have hs2 : w.heap.size + 1 < W1.heap.size := HB2'.out.lt
          have hB2w := (HB2'.out.below (HB5.out.trans (hAJ.bel.mono hz5)) HB2'.out.lt)
          have hB2x := far_set2 (b := w5.heap.size) (.int .i64 JN) (.slice aJ JT.length cJ) hB2w (by omega)
          have HK2 := Lib.hid hk2
          have HB2x := Lib.hid hB2x
          clear lx x0 f0 x1 f1 x2 f2 x3 f3 hAJ hTJ hbJ
          unfold set2 at hk2 hB2x
          obtain ⟨lx, x0, f0, x1, f1, x2, f2, x3, f3⟩ := fourG hk2
          obtain ⟨ly, y0, q0, y1, q1, y2, q2, y3, q3⟩ := fourG hB2x
          clear hk2 hB2x hB2w
          go_wp2
          have hK4 := blk_set4 (.int .i64 JN) (.slice aJ JT.length cJ) (.slice aP9 PP.length cP9) (.slice aK9 KK.length cK9) HB2x.out
          have hwW := HBW.out.size
          have hbAll : Below w.heap.size w wJ := HBW.out.trans ((HB5.out.trans (HAJ.out.bel.mono hz5)).mono hwW)
          have hb2 := below_set2 (b := w5.heap.size) (.int .i64 JN) (.slice aJ JT.length cJ) hbAll (by omega)
          have hb4 := below_set4 (b := w.heap.size + 1) (.int .i64 JN) (.slice aJ JT.length cJ) (.slice aP9 PP.length cP9) (.slice aK9 KK.length cK9) hb2 (by omega)
          have hT4 := own_set4 (.int .i64 JN) (.slice aJ JT.length cJ) (.slice aP9 PP.length cP9) (.slice aK9 KK.length cK9) (own_set2 (.int .i64 JN) (.slice aJ JT.length cJ) HTJ.out HAJ.out.kx (by decide)) HB2x.out (by decide)
          have hP4 := own_set4 (.int .i64 JN) (.slice aJ JT.length cJ) (.slice aP9 PP.length cP9) (.slice aK9 KK.length cK9) (own_set2 (.int .i64 JN) (.slice aJ JT.length cJ) HAJ.out.rP HAJ.out.kx (by decide)) HB2x.out (by decide)
          have hK4r := own_set4 (.int .i64 JN) (.slice aJ JT.length cJ) (.slice aP9 PP.length cP9) (.slice aK9 KK.length cK9) (own_set2 (.int .i64 JN) (.slice aJ JT.length cJ) HAJ.out.rK HAJ.out.kx (by decide)) HB2x.out (by decide)
          have hO4 := own_set4 (.int .i64 JN) (.slice aJ JT.length cJ) (.slice aP9 PP.length cP9) (.slice aK9 KK.length cK9) (own_set2 (.int .i64 JN) (.slice aJ JT.length cJ) HAJ.out.rO HAJ.out.kx (by decide)) HB2x.out (by decide)
          obtain ⟨-, p0, p1, p2, p3⟩ := fourF hK4
          unfold set2 set4 at p0 p1 p2 p3 hb4 hT4 hP4 hK4r hO4
          have hwy := HA.out.bel.size
          refine bodyPost_ret (v := .tuple #[.agg #[.int .i64 JN, .slice aJ JT.length cJ, .slice aP9 PP.length cP9, .slice aK9 KK.length cK9], .slice aO9 OO.length cO9]) (by simp [results, Try.results53, go_sem, p0, p1, p2, p3]) rfl ?_
          have eS := HS5.out
          have eJ := HJe.out
          have eP := HPe.out
          refine ⟨out, m, .slice aJ JT.length cJ, .slice aP9 PP.length cP9, .slice aK9 KK.length cK9, .slice aO9 OO.length cO9, Hsh.out, Hm.out.symm, ?_, ?_, ?_, ?_, ?_, hb4⟩
          · rw [eS, eJ.1]
          · rw [eS, eJ.2]
            exact own_lower hT4 (by omega)
          · rw [eS, eP.1]
            exact own_lower hP4 (by omega)
          · rw [eS, eP.2.1]
            exact own_lower hK4r (by omega)
          · rw [eS, eP.2.2]
            exact own_lower hO4 (by omega)
end Go.Proofs.Ytpnkhgjjlionnaa
namespace Go.Proofs.Ytpnkhgjjlionnaa
open Go.RowKit Go.Maps

def frmS (T : List Tr) (out : List Int) (m : Nat) : Int × List Tr := joinM (soupsM (sortM T [] [] out m))
def frmO (T : List Tr) (out : List Int) (m : Nat) : List Int := (sortM T [] [] out m).flatMap (·.old)
/-- The form of a surface's triangles, and the old numbers. -/
def FormIs (T : List Tr) (S : Int × List Tr) (O : List Int) : Prop := ∃ (out : List Int) (m : Nat), Shl T out ∧ (m : Int) = cntL out ∧ S = frmS T out m ∧ O = frmO T out m
theorem FormIs.one {T : List Tr} {S S' : Int × List Tr} {O O' : List Int} (h : FormIs T S O) (h' : FormIs T S' O') : S = S' ∧ O = O' := by
  obtain ⟨out, m, h1, h2, rfl, rfl⟩ := h
  obtain ⟨out', m', h1', h2', rfl, rfl⟩ := h'
  have e := h1.one h1'
  subst e
  have : m = m' := by omega
  subst this
  exact ⟨rfl, rfl⟩
theorem FormIs.len {T : List Tr} {S : Int × List Tr} {O : List Int} (h : FormIs T S O) : S.2.length ≤ T.length := by
  obtain ⟨out, m, h1, h2, rfl, rfl⟩ := h
  exact (soups_bd (P := []) (K := []) h1 (h1.hasP h2)).2
theorem ints_nil (w : World) : IntsRd w (.slice none 0 0) [] := IntsRd.of_row (base := 0) (n := 0) (World.ownsRow_nil _ _ _ _) rfl
theorem tris_nil (w : World) : TrisRd w (.slice none 0 0) [] := ⟨none, 0, rfl, Nat.le_refl _, by decide, fun i x y z h => by simp at h⟩
theorem form_soup (N : Int) (v : Value) (T : List Tr) (w : World) (hS : Surf N T) (h : TrisRd w v T) (hl : T.length ≤ 1000) (h60 : N ≤ 60) :
    Calls Try.prog 53 #[.agg #[.int .i64 N, v, .slice none 0 0, .slice none 0 0]] w fun e w' => ∃ S O aT cT aP nP cP aK nK cK aO cO, FormIs T S O ∧ e = .returned (.tuple #[.agg #[.int .i64 S.1, .slice aT S.2.length cT, .slice aP nP cP, .slice aK nK cK], .slice aO O.length cO]) ∧
      w'.ownsRow w.heap.size 61 3 (.slice aT S.2.length cT) S.2.length (ws3 S.2) ∧ w'.ownsRow w.heap.size 3 1 (.slice aO O.length cO) O.length (intsV O) ∧ Below w.heap.size w w' := by
  refine (form_any N T [] [] _ _ _ w hS h (tris_nil w) (ints_nil w) (fun h => absurd rfl h) (fun h => absurd rfl h) h60 hl).mono ?_
  rintro e w2 ⟨out, m, vT', vP', vK', vO', hsh, hm, rfl, hT, hP, hK, hO, hb2⟩
  obtain ⟨aP9, cP9, rfl⟩ := ownsRow_slice hP
  obtain ⟨aK9, cK9, rfl⟩ := ownsRow_slice hK
  obtain ⟨aT9, cT9, rfl⟩ := ownsRow_slice hT
  obtain ⟨aO9, cO9, rfl⟩ := ownsRow_slice hO
  exact ⟨frmS T out m, frmO T out m, _, _, _, _, _, _, _, _, _, _, ⟨out, m, hsh, hm, rfl, rfl⟩, rfl, hT, hO, hb2⟩
set_option maxRecDepth 100000 in
set_option maxHeartbeats 1000000 in
theorem cform_any (N : Int) (v : Value) (T : List Tr) (w : World) (h : TrisRd w v T) (hl : T.length ≤ 1000) (h60 : N ≤ 60) :
    Calls Try.prog 24 #[.agg #[.int .i64 N, v]] w fun e w' => ((¬ Surf N T ∧ e = .returned (.tuple #[.agg #[.int .i64 0, .slice none 0 0], .slice none 0 0, .int .i64 11])) ∨
      (Surf N T ∧ ∃ S O vT vO, FormIs T S O ∧ e = .returned (.tuple #[.agg #[.int .i64 S.1, vT], vO, .int .i64 0]) ∧ w'.ownsRow w.heap.size 61 3 vT S.2.length (ws3 S.2) ∧ w'.ownsRow w.heap.size 3 1 vO O.length (intsV O))) ∧ Below w.heap.size w w' := by
  have hb1 := (Blk.new w 24 #[.int .i64 N, v]).alloc (.cells #[.int .i64 0, .slice none 0 0] 24)
  have hb2 : Blk ((w.alloc (.cells #[.int .i64 N, v] 24)).alloc (.cells #[.int .i64 0, .slice none 0 0] 24)) (w.heap.size + 1) 24 #[.int .i64 0, .slice none 0 0] := blk_new_at (by simp)
  have hB0 : Below w.heap.size w ((w.alloc (.cells #[.int .i64 N, v] 24)).alloc (.cells #[.int .i64 0, .slice none 0 0] 24)) := ((Below.refl _ _).alloc (Nat.le_refl _) _).alloc (by simp) _
  have HI := Lib.hid (is_any N v T _ (h.below hB0) (by omega))
  have HR := Lib.hid (fun (W : World) (hW : Below w.heap.size w W) => h.below hW)
  obtain ⟨aT, cT, rfl, -⟩ := h
  obtain ⟨l1, x0, -, x1, -⟩ := hb1.two
  have HB0 := Lib.hid hB0
  have HB1 := Lib.hid hb1
  have HB2 := Lib.hid hb2
  clear hB0 hb1 hb2
  obtain ⟨F, hF⟩ : ∃ F, T.length = F := ⟨_, rfl⟩
  have HF := Lib.hid hF
  rw [hF] at HI x1 HB0 HB1 HB2 l1 x0 HR hl ⊢
  clear hF
  go_enter Try.func24, Try.ntmps24
  go_upto_if 9 with (go_at_call 13; go_loud (refine HI.out.mono ?_; rintro e w1 ⟨bs, rfl, hbs, hb⟩))
  have hBW := HB0.out.trans (hb.mono HB0.out.size)
  have hb1' := HB1.out.below hb HB1.out.lt
  have hb2' := HB2.out.below hb HB2.out.lt
  have HBs := Lib.hid hbs
  have HBW := Lib.hid hBW
  have HB2' := Lib.hid hb2'
  obtain ⟨l1', x0', -, x1', -⟩ := hb1'.two
  obtain ⟨l2', y0, f0, y1, f1⟩ := hb2'.two
  have hz1 := hBW.size
  clear hb hbs x0 x1 l1 hb1' hBW hb2' HI
  cases bs with
  | false =>
    have hno : ¬ Surf N T := fun h => by have := HBs.out.2 h; cases this
    have HNo := Lib.hid hno
    have hK := (HB2'.out.set_ 0 (.int .i64 0)).set_ 1 (.slice none 0 0)
    have HK := Lib.hid (show Blk _ (w.heap.size + 1) 24 #[.int .i64 0, .slice none 0 0] from by simpa using hK)
    have HBe := Lib.hid ((HBW.out.setCell (p := ⟨w.heap.size + 1, 0, none⟩) (by simp) (.int .i64 0)).setCell (p := ⟨w.heap.size + 1, 1, none⟩) (by simp) (.slice none 0 0))
    clear hno hK HBs
    go_wp2
    obtain ⟨-, p0, -, p1, -⟩ := HK.out.two
    refine bodyPost_ret (v := .tuple #[.agg #[.int .i64 0, .slice none 0 0], .slice none 0 0, .int .i64 11]) (by simp [results, Try.results24, go_sem, p0, p1]) rfl ?_
    exact ⟨.inl ⟨HNo.out, rfl⟩, HBe.out⟩
  | true =>
    have hS := HBs.out.1 rfl
    have HS := Lib.hid hS
    have HFm := Lib.hid (form_soup N _ T w1 hS (HR.out w1 HBW.out) (by rw [HF.out]; exact hl) h60)
    clear hS HBs
    go_upto_region 4 with (go_at_call 53; go_loud (refine HFm.out.mono ?_; rintro e w2 ⟨S, O, aT9, cT9, aP9, nP9, cP9, aK9, nK9, cK9, aO9, cO9, hFI, rfl, hT, hO, hb2⟩))
    have hA := (Below.refl w2.heap.size w2).alloc (Nat.le_refl _) (.cells #[.int .i64 S.1, .slice aT9 S.2.length cT9, .slice aP9 nP9 cP9, .slice aK9 nK9 cK9] 98)
    have hk := Blk.new w2 98 #[.int .i64 S.1, .slice aT9 S.2.length cT9, .slice aP9 nP9 cP9, .slice aK9 nK9 cK9]
    obtain ⟨lk, z0, z1, -, -⟩ := fourF hk
    have hs2 : w.heap.size + 1 < w1.heap.size := HB2'.out.lt
    have h2 := (HB2'.out.below hb2 hs2).below hA (Nat.lt_of_lt_of_le hs2 hb2.size)
    obtain ⟨l3, y0, f0, y1, f1⟩ := h2.two
    have hT2 := own_below hT hA
    have hO2 := own_below hO hA
    have hK := (h2.set_ 0 (.int .i64 S.1)).set_ 1 (.slice aT9 S.2.length cT9)
    have HK := Lib.hid (show Blk _ (w.heap.size + 1) 24 #[.int .i64 S.1, .slice aT9 S.2.length cT9] from by simpa using hK)
    have HBe := Lib.hid (((HBW.out.trans ((hb2.trans (hA.mono hb2.size)).mono hz1)).setCell (p := ⟨w.heap.size + 1, 0, none⟩) (by simp) (.int .i64 S.1)).setCell (p := ⟨w.heap.size + 1, 1, none⟩) (by simp) (.slice aT9 S.2.length cT9))
    have HO2 := Lib.hid (And.intro (own_alloc_st (i := 1) (u := .slice aT9 S.2.length cT9) (own_alloc_st (i := 0) (u := .int .i64 S.1) hT2 h2 (by decide)) (h2.set_ 0 (.int .i64 S.1)) (by decide)) (own_alloc_st (i := 1) (u := .slice aT9 S.2.length cT9) (own_alloc_st (i := 0) (u := .int .i64 S.1) hO2 h2 (by decide)) (h2.set_ 0 (.int .i64 S.1)) (by decide)))
    have HFI := Lib.hid hFI
    clear hA hk h2 hT2 hO2 hK hT hO hFI hb2
    go_wp2
    obtain ⟨-, p0, -, p1, -⟩ := HK.out.two
    refine bodyPost_ret (v := .tuple #[.agg #[.int .i64 S.1, .slice aT9 S.2.length cT9], .slice aO9 O.length cO9, .int .i64 0]) (by simp [results, Try.results24, go_sem, p0, p1]) rfl ?_
    exact ⟨.inr ⟨HS.out, S, O, _, _, HFI.out, rfl, own_lower HO2.out.1 hz1, own_lower HO2.out.2 hz1⟩, HBe.out⟩
theorem cform_two (N : Int) (v : Value) (T : List Tr) (w : World) (h : TrisRd w v T) (hl : T.length ≤ 1000) (h60 : N ≤ 60) :
    Calls Try.prog 24 #[.agg #[.int .i64 N, v]] w fun e w' => ∃ S O aT cT aO cO er, e = .returned (.tuple #[.agg #[.int .i64 S.1, .slice aT S.2.length cT], .slice aO O.length cO, .int .i64 er]) ∧ TrisRd w' (.slice aT S.2.length cT) S.2 ∧ IntsRd w' (.slice aO O.length cO) O ∧ S.2.length ≤ 1000 ∧
      ((er = 0 ∧ Surf N T ∧ FormIs T S O) ∨ (er = 11 ∧ ¬ Surf N T ∧ S = (0, []) ∧ O = [])) ∧ Below w.heap.size w w' := by
  refine (cform_any N v T w h hl h60).mono ?_
  rintro e w' ⟨⟨hno, rfl⟩ | ⟨hS, S, O, vT, vO, hF, rfl, hT, hO⟩, hb⟩
  · exact ⟨(0, []), [], none, 0, none, 0, 11, rfl, tris_nil _, ints_nil _, by simp, .inr ⟨rfl, hno, rfl, rfl⟩, hb⟩
  · obtain ⟨aT, cT, rfl⟩ := ownsRow_slice hT
    obtain ⟨aO, cO, rfl⟩ := ownsRow_slice hO
    exact ⟨S, O, aT, cT, aO, cO, 0, rfl, TrisRd.of_row hT, IntsRd.of_row hO rfl, Nat.le_trans hF.len hl, .inl ⟨rfl, hS, hF⟩, hb⟩
/-- Are two surfaces' forms the same? -/
def FormEq (N1 N2 : Int) (T1 T2 : List Tr) : Prop := Surf N1 T1 ∧ Surf N2 T2 ∧ ∃ S O1 O2, FormIs T1 S O1 ∧ FormIs T2 S O2
set_option maxRecDepth 100000 in
set_option maxHeartbeats 2000000 in
theorem equal_any (N1 N2 : Int) (v1 v2 : Value) (T1 T2 : List Tr) (w : World) (h1 : TrisRd w v1 T1) (h2 : TrisRd w v2 T2) (l1 : T1.length ≤ 1000) (l2 : T2.length ≤ 1000) (n1 : N1 ≤ 60) (n2 : N2 ≤ 60) :
    Calls Try.prog 11 #[.agg #[.int .i64 N1, v1], .agg #[.int .i64 N2, v2]] w fun e w' => ∃ b : Bool, e = .returned (.bool b) ∧ (b = true ↔ FormEq N1 N2 T1 T2) ∧ Below w.heap.size w w' := by
  have hb1 := (Blk.new w 24 #[.int .i64 N1, v1]).alloc (.cells #[.int .i64 N2, v2] 24)
  have hb2 : Blk ((w.alloc (.cells #[.int .i64 N1, v1] 24)).alloc (.cells #[.int .i64 N2, v2] 24)) (w.heap.size + 1) 24 #[.int .i64 N2, v2] := blk_new_at (by simp)
  have hB0 : Below w.heap.size w ((w.alloc (.cells #[.int .i64 N1, v1] 24)).alloc (.cells #[.int .i64 N2, v2] 24)) := ((Below.refl _ _).alloc (Nat.le_refl _) _).alloc (by simp) _
  have HF1 := Lib.hid (cform_two N1 v1 T1 _ (h1.below hB0) l1 n1)
  have HF2 := Lib.hid (fun (W : World) (hW : Below w.heap.size w W) => cform_two N2 v2 T2 W (h2.below hW) l2 n2)
  obtain ⟨a1, c1, rfl, -⟩ := h1
  obtain ⟨a2, c2, rfl, -⟩ := h2
  obtain ⟨p0, x0, -, x1, -⟩ := hb1.two
  obtain ⟨F1, hF1⟩ : ∃ F, T1.length = F := ⟨_, rfl⟩
  obtain ⟨F2, hF2⟩ : ∃ F, T2.length = F := ⟨_, rfl⟩
  rw [hF1] at HF1 x0 x1 hB0 hb2 p0 l1 ⊢
  rw [hF2] at HF1 HF2 x0 x1 hB0 hb2 p0 l2 ⊢
  have HB0 := Lib.hid hB0
  have HB2 := Lib.hid hb2
  have HL := Lib.hid (And.intro hF1 hF2)
  clear hB0 hb1 hb2 hF1 hF2
  go_enter Try.func11, Try.ntmps11
  go_upto_region 2 with (go_at_call 24; go_loud (refine HF1.out.mono ?_; rintro e w1 ⟨S1, O1, aT1, cT1, aO1, cO1, er1, rfl, hr1, -, hs1, hc1, hb1⟩))
  have hA1 := (Below.refl w1.heap.size w1).alloc (Nat.le_refl _) (.cells #[.int .i64 S1.1, .slice aT1 S1.2.length cT1] 24)
  have hBa := HB0.out.trans ((hb1.trans (hA1.mono hb1.size)).mono HB0.out.size)
  have hk2 := (HB2.out.below hb1 HB2.out.lt).alloc (.cells #[.int .i64 S1.1, .slice aT1 S1.2.length cT1] 24)
  have hk5 := Blk.new w1 24 #[.int .i64 S1.1, .slice aT1 S1.2.length cT1]
  have hr1a := hr1.below hA1
  generalize hq5 : w1.heap.size = q5 at *
  have HF2' := Lib.hid (HF2.out _ hBa)
  obtain ⟨l2', y0, -, y1, -⟩ := hk2.two
  have HBa := Lib.hid hBa
  have Hk5 := Lib.hid hk5
  have Hr1 := Lib.hid hr1a
  have hz1 := hBa.size
  clear hr1 hb1 hA1 hBa hk2 hk5 hr1a x0 x1 p0
  go_upto_region 3 with (go_at_call 24; go_loud (refine HF2'.out.mono ?_; rintro e w2 ⟨S2, O2, aT2, cT2, aO2, cO2, er2, rfl, hr2, -, hs2, hc2, hb2⟩))
  have hA2 := (Below.refl w2.heap.size w2).alloc (Nat.le_refl _) (.cells #[.int .i64 S2.1, .slice aT2 S2.2.length cT2] 24)
  have hk5 := (Hk5.out.below hb2 Hk5.out.lt).alloc (.cells #[.int .i64 S2.1, .slice aT2 S2.2.length cT2] 24)
  have hk8 := Blk.new w2 24 #[.int .i64 S2.1, .slice aT2 S2.2.length cT2]
  have hr1b := (Hr1.out.below hb2).below hA2
  have hr2b := hr2.below hA2
  have HS := Lib.hid (soupSame_any S1.1 S2.1 _ _ S1.2 S2.2 _ hr1b hr2b (by omega) (by omega))
  have HBb := Lib.hid (HBa.out.trans ((hb2.trans (hA2.mono hb2.size)).mono hz1))
  obtain ⟨l5, z0, -, z1, -⟩ := hk5.two
  obtain ⟨l8, u0, -, u1, -⟩ := hk8.two
  clear hA2 hk5 hk8 hr1b hr2b hb2 hr2 y0 y1 l2'
  generalize w2.alloc (.cells #[.int .i64 S2.1, .slice aT2 S2.2.length cT2] 24) = w3 at *
  generalize w2.heap.size = q8 at *
  rcases hc1 with ⟨rfl, hS1, hI1⟩ | ⟨rfl, hS1, -⟩
  · rcases hc2 with ⟨rfl, hS2, hI2⟩ | ⟨rfl, hS2, -⟩
    · have HQ := Lib.hid (show decide (S1.1 = S2.1 ∧ S1.2 = S2.2) = true ↔ FormEq N1 N2 T1 T2 from by
        rw [decide_eq_true_iff]
        constructor
        · intro h
          refine ⟨hS1, hS2, S1, O1, O2, hI1, ?_⟩
          rw [Prod.ext h.1 h.2]
          exact hI2
        · rintro ⟨-, -, S, O, O', h, h'⟩
          rw [(hI1.one h).1, (hI2.one h').1]
          exact ⟨rfl, rfl⟩)
      clear hS1 hS2 hI1 hI2
      go_wp2_with (go_at_call 30; refine HS.out.mono ?_; rintro e w4 ⟨rfl, hb4⟩)
      go_ret
      exact ⟨_, by simp, HQ.out, HBb.out.trans (hb4.mono HBb.out.size)⟩
    · have HQ := Lib.hid (show false = true ↔ FormEq N1 N2 T1 T2 from ⟨fun h => (by cases h), fun h => absurd h.2.1 hS2⟩)
      clear hS1 hS2 hI1
      go_wp2
      go_ret
      exact ⟨_, by simp, HQ.out, HBb.out⟩
  · have HQ := Lib.hid (show false = true ↔ FormEq N1 N2 T1 T2 from ⟨fun h => (by cases h), fun h => absurd h.1 hS1⟩)
    clear hS1 hc2
    go_wp2
    go_ret
    exact ⟨_, by simp, HQ.out, HBb.out⟩
end Go.Proofs.Ytpnkhgjjlionnaa
