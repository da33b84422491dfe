/-
  Texts joined by program: Of GenA Gen Sep BorC Chk Simp Ste Reg Apn.
-/
import Derived.Test.YtghlnknncahkgaaGreatQ4
import Derived.Deep.Onto
import Derived.BigRegion
import Derived.RegionTactic
import Derived.Lib.QuietBelow
import Derived.BigQuiet
import Derived.Test.YtghlnknncahkgaaGreatQ1
import Derived.Deep.RegionHeld3
import Derived.RangeFuncNested
import Derived.RangeFuncCalls
import Derived.RangeFuncBound
import Derived.Shelf.Abstract
import Derived.RangeFuncLeaves
import Derived.OwnWalkIn
import Derived.TacticsInMore
import Derived.LoopNIn
import Derived.LoopIn
import Derived.Lib.Hide
import Derived.Test.YtghlnknncahkgaaGreatQ5
import Derived.Sort.LoopGhostIn
import Derived.OrdersIn
import Derived.TacticsIn
import Derived.Deep.AppendLies
/-
  shell.Of, Count, by walking their texts.
-/
namespace Go.Proofs.YtghlnknncahkgaaGreat
open Go.RowKit

theorem made_ints (m : Nat) : (madeCells (Value.int .i64 0).cells (m * 1)).toList = List.replicate m (.int .i64 0) := by
  rw [Nat.mul_one]
  show (madeCells #[Value.int .i64 0] m).toList = _
  rw [toList_madeCells_one]
theorem intsV_at {out : List Int} {j : Nat} (h : j < out.length) : (intsV out)[j]? = some (.int .i64 (at_ out j)) := by
  unfold intsV at_
  rw [List.getElem?_map, List.getElem?_eq_getElem h]
  simp [List.getD, h]
theorem intsV_set (out : List Int) (j : Nat) (x : Int) : (intsV out).set j (.int .i64 x) = intsV (out.set j x) := by simp [intsV, List.map_set]
theorem fill_set (k F : Nat) (h : k < F) : (intsV (List.replicate k (-1) ++ List.replicate (F - k) 0)).set k (.int .i64 (-1)) = intsV (List.replicate (k + 1) (-1) ++ List.replicate (F - (k + 1)) 0) := by
  rw [intsV_set]
  congr 1
  apply List.ext_getElem?
  intro i
  rw [List.getElem?_set]
  by_cases e : k = i
  · subst e
    rw [if_pos rfl, if_pos (by simp; omega), List.getElem?_append_left (by simp), List.getElem?_replicate, if_pos (by omega)]
  · rw [if_neg e]
    by_cases hi : i < k
    · rw [List.getElem?_append_left (by simpa using hi), List.getElem?_append_left (by simp; omega), List.getElem?_replicate, List.getElem?_replicate, if_pos hi, if_pos (by omega)]
    · rw [List.getElem?_append_right (by simp; omega), List.getElem?_append_right (by simp; omega), List.getElem?_replicate, List.getElem?_replicate]
      simp only [List.length_replicate]
      by_cases h2 : i < F
      · rw [if_pos (by omega), if_pos (by omega)]
      · rw [if_neg (by omega), if_neg (by omega)]
set_option maxRecDepth 100000 in
set_option maxHeartbeats 4000000 in
theorem of_any (g : Nat) (N : Int) (T : List Tr) (w : World) (h : Tab w g N T) (hE : (T.flatMap edges3).Nodup) : Calls Tryz.prog 73 #[.pointer (some ⟨g, 0, none⟩)] w fun e w' => ∃ v out, e = .returned v ∧ w'.ownsRow w.heap.size 3 1 v T.length (intsV out) ∧ Shl T out ∧ (∀ j, j < T.length → at_ out j < T.length) ∧ Below w.heap.size w w' := by
  obtain ⟨i2, hj', hz0, hz1, hz2⟩ := info_parts infoInt
  have HT := Lib.hid h
  have H0 := Lib.hid (triangles_any g N T w h.toTabS)
  have hl := h.len
  have hgl := h.lt
  obtain ⟨F, hF⟩ : ∃ F, T.length = F := ⟨_, rfl⟩
  rw [hF] at hl H0 ⊢
  have HF := Lib.hid hF
  clear hF h
  go_enter Tryz.func73, Tryz.ntmps73
  go_wp2_with fail
  refine H0.out.mono ?_
  rintro e w0 ⟨rfl, rfl⟩
  go_wp2_with (at_make; refine wpList_make_full _ rfl (.tmp 12) (.tmp 12) 28 rfl w.heap.size 3 i2 _ 1 Tryz.underlying28 hj' hz0 hz1 .i64 .i64 _ _ F rfl rfl rfl rfl (by rw [hz2]; omega) (by unfold maxLen; omega) (Nat.le_refl _) ?_; intro w1 hr1 hg1)
  rw [made_ints] at hr1
  have hB1 : Below w.heap.size w w1 := (Below.refl _ _).grown hg1 (Nat.le_refl _) (fun j e => by cases e)
  clear hg1
  go_loopw [16] (fun ix wr => ∃ k : Nat, k ≤ F ∧ ix = .int .i64 k ∧ wr.ownsRow w.heap.size 3 1 (.slice (some ⟨w.heap.size, 0, none⟩) F F) F (intsV (List.replicate k (-1) ++ List.replicate (F - k) 0)) ∧ Below w.heap.size w wr) (fun ix _ => F - (intOf ix).toNat)
  case atStart => exact ⟨0, Nat.zero_le _, rfl, by simpa [intsV] using hr1, hB1⟩
  case round =>
    clear hr1 hB1
    obtain ⟨k, hk, rfl, hr, hB⟩ := hrel
    rename World => wr
    by_cases hlt : k < F
    · have hlen : (List.replicate k (-1 : Int) ++ List.replicate (F - k) 0).length = F := by simp; omega
      have hc : wr.cell? ⟨w.heap.size, k, none⟩ = some (.int .i64 (at_ (List.replicate k (-1) ++ List.replicate (F - k) 0) k)) := by rw [hr.cellAt k (by omega)]; exact intsV_at (by rw [hlen]; exact hlt)
      have hf := hr.frozenAt k
      have hk3 : (k : Int) < (F : Int) := by omega
      have hsz := hB.size
      have hst := hr.stored k (.int .i64 (-1))
      rw [fill_set k F hlt] at hst
      have HST := Lib.hid hst
      have HB := Lib.hid hB
      clear hr hB hlen hst
      go_wp2
      go_roundw
      case measure => simp [intOf]; omega
      case rel => exact ⟨k + 1, by omega, by go_num, HST.out.1, HB.out.grown HST.out.2 hsz (fun j e => by cases e; exact Nat.le_refl _)⟩
    · obtain rfl : k = F := by omega
      have hI : OfInv T 0 0 (List.replicate T.length (-1)) := OfInv.start T
      rw [HF.out] at hI
      have hr' : wr.ownsRow w.heap.size 3 1 (.slice (some ⟨w.heap.size, 0, none⟩) k k) k (intsV (List.replicate k (-1))) := by simpa using hr
      have HI := Lib.hid hI
      have HR := Lib.hid hr'
      have HB := Lib.hid hB
      clear hr hB hr' hI
      go_wp2
      go_loopw [5, 25] (fun v5 ix wr => ∃ (f n : Nat) (out : List Int), f ≤ k ∧ n ≤ f ∧ ix = .int .i64 f ∧ v5 = .int .i64 n ∧ wr.ownsRow w.heap.size 3 1 (.slice (some ⟨w.heap.size, 0, none⟩) k k) k (intsV out) ∧ OfInv T f n out ∧ Below w.heap.size w wr) (fun _ ix _ => k - (intOf ix).toNat)
      case atStart => exact ⟨0, 0, _, Nat.zero_le _, Nat.le_refl _, rfl, rfl, HR.out, HI.out, HB.out⟩
      case round =>
        rename World => wz
        clear HR HI HB
        obtain ⟨f, n, out, hf, hnf, rfl, rfl, hr, hI, hB⟩ := hrel
        by_cases hlt2 : f < k
        · have hol : out.length = k := by rw [hI.len, HF.out]
          have hc : wz.cell? ⟨w.heap.size, f, none⟩ = some (.int .i64 (at_ out f)) := by rw [hr.cellAt f (by omega)]; exact intsV_at (by rw [hol]; exact hlt2)
          have hfz := hr.frozenAt f
          have hf3 : (f : Int) < (k : Int) := by omega
          have hsz := hB.size
          by_cases h0 : 0 ≤ at_ out f
          · have hd : decide (0 ≤ at_ out f) = true := by simpa using h0
            have hI2 := hI.skip h0
            have HI2 := Lib.hid hI2
            have HR := Lib.hid hr
            have HB := Lib.hid hB
            generalize at_ out f = z at *
            clear hI hI2 hr hB hol
            go_wp2
            go_roundw
            case measure => simp [intOf]; omega
            case rel => exact ⟨f + 1, n, out, by omega, by omega, by go_num, rfl, HR.out, HI2.out, HB.out⟩
          · have hd : decide (0 ≤ at_ out f) = false := by simpa using h0
            have hbf := hI.begin_ (by rw [HF.out]; exact hlt2) (by omega)
            have Hbf := Lib.hid hbf
            have hst := hr.stored f (.int .i64 (n : Int))
            rw [intsV_set] at hst
            have HST := Lib.hid hst
            have HI := Lib.hid hI
            have HB := Lib.hid hB
            have hgo := (hr.lt _ rfl).2
            have hW0 : ((wz.setCell ⟨w.heap.size, f, none⟩ (.int .i64 (n : Int))).alloc (.cells #[.int .i64 f] 3)).ownsRow wz.heap.size 3 1 (.slice (some ⟨wz.heap.size, 0, none⟩) 1 1) 1 (intsV (nats [f])) := by
              have := World.ownsRow_lit (wz.setCell ⟨w.heap.size, f, none⟩ (.int .i64 (n : Int))) (base := wz.heap.size) (e := 3) (size := 1) #[.int .i64 (f : Int)] 1 (by simp) (by decide) rfl
              simpa [intsV, nats] using this
            have HW0 := Lib.hid hW0
            generalize at_ out f = z at *
            clear hI hbf hr hB hol hst hW0
            go_wp2
            go_loopw [7, 8] (fun v7 i8 wy => ∃ (v' : Value) (W : List Nat) (out' : List Int) (i : Nat), v' = v7 ∧ i ≤ W.length ∧ i8 = .int .i64 i ∧ wy.ownsRow wz.heap.size 3 1 v' W.length (intsV (nats W)) ∧ wy.ownsRow w.heap.size 3 1 (.slice (some ⟨w.heap.size, 0, none⟩) k k) k (intsV out') ∧ OfBfs T f n out W out' i 0 ∧ Below w.heap.size w wy) (fun _ i8 _ => k + 1 - (intOf i8).toNat)
            case atStart =>
              exact ⟨_, [f], _, 0, rfl, by simp, rfl, HW0.out, HST.out.1.alloc _, Hbf.out, (HB.out.grown HST.out.2 hsz (fun j e => by cases e; exact Nat.le_refl _)).alloc (by simp; exact hsz) _⟩
            case round =>
              rename World => wy
              clear HST Hbf HW0 hc hfz
              obtain ⟨v7, W, out', i, rfl, hi, rfl, hW, hr, hbf, hB⟩ := hrel
              have hwl := hbf.wl
              rw [HF.out] at hwl
              obtain ⟨L, hL⟩ : ∃ L, W.length = L := ⟨_, rfl⟩
              have HL := Lib.hid hL
              rw [hL] at hi hW hwl
              clear hL
              by_cases hiL : i < L
              · obtain ⟨u, hu⟩ : ∃ u, W[i]? = some u := ⟨W[i]'(by have := HL.out; omega), List.getElem?_eq_getElem _⟩
                have hul := hbf.lt u (List.mem_of_getElem? hu)
                rw [HF.out] at hul
                obtain ⟨aw, cw, rfl⟩ := ownsRow_slice hW
                have Hu := Lib.hid hu
                have HW := Lib.hid hW
                have HR := Lib.hid hr
                have HBF := Lib.hid hbf
                have HBy := Lib.hid hB
                have hi3 : (i : Int) < (L : Int) := by omega
                clear hu hW hr hbf hB
                go_wp2
                go_loopw [7, 45] (fun v7 k4 wx => ∃ (v' : Value) (W : List Nat) (out' : List Int) (q : Nat), v' = v7 ∧ q ≤ 3 ∧ k4 = .int .i64 q ∧ wx.ownsRow wz.heap.size 3 1 v' W.length (intsV (nats W)) ∧ wx.ownsRow w.heap.size 3 1 (.slice (some ⟨w.heap.size, 0, none⟩) k k) k (intsV out') ∧ OfBfs T f n out W out' i q ∧ W[i]? = some u ∧ Below w.heap.size w wx) (fun _ k4 _ => 3 - (intOf k4).toNat)
                case atStart => exact ⟨_, W, out', 0, rfl, by omega, rfl, by rw [HL.out]; exact HW.out, HR.out, HBF.out, Hu.out, HBy.out⟩
                case round =>
                  rename World => wx
                  clear HW HR HBF HBy Hu HL hi3 hiL hi hwl
                  clear W out'
                  obtain ⟨v7, W, out', q, rfl, hq, rfl, hW, hr, hbf, hu, hB⟩ := hrel
                  have hwl := hbf.wl
                  rw [HF.out] at hwl
                  have hiL := (List.getElem?_eq_some_iff.1 hu).1
                  by_cases hq3 : q < 3
                  · obtain ⟨gw, cw', rfl, hgw1, hgw2⟩ := hW.form (by omega)
                    have hcw := hW.cellAt i (by omega)
                    rw [show (intsV (nats W))[i]? = some (.int .i64 (u : Int)) from by simp [intsV, nats, hu]] at hcw
                    have hsx := hB.size
                    have HO := Lib.hid (opp_any g N (3 * (u : Int) + (q : Int)) T wx (HT.out.below (hB.mono (Nat.le_refl _))))
                    obtain ⟨L2, hL2⟩ : ∃ L2, W.length = L2 := ⟨_, rfl⟩
                    rw [hL2] at hW hiL hwl ⊢
                    have HL2 := Lib.hid hL2
                    have hi3 : (i : Int) < (L2 : Int) := by omega
                    have hq0 : (q : Int) < 3 := by omega
                    have hqn : (0 : Int) ≤ (q : Int) := by omega
                    have hu0 : (0 : Int) ≤ (u : Int) := by omega
                    have hu1 : (u : Int) ≤ 8192 := by omega
                    have ecast : (3 * (u : Int) + (q : Int)) = ((3 * u + q : Nat) : Int) := by push_cast; rfl
                    have HEC := Lib.hid ecast
                    have HW := Lib.hid hW
                    have HR := Lib.hid hr
                    have HBF := Lib.hid hbf
                    have HU := Lib.hid hu
                    have HBx := Lib.hid hB
                    clear hW hr hbf hu hB hL2 ecast
                    rcases opp_cases T ((3 * u + q : Nat) : Int) with ho | ⟨o, ho, hol⟩
                    · rw [HEC.out, ho] at HO
                      have Hs := Lib.hid (HBF.out.step0 HU.out (fun o e => by rw [ho] at e; omega))
                      clear ho
                      go_wp2_with fail
                      rw [HEC.out]
                      refine HO.out.mono ?_
                      rintro e w2 ⟨rfl, hb2⟩
                      have HB2 := Lib.hid hb2
                      clear hb2 hcw
                      go_wp2
                      go_roundw
                      case measure => simp [intOf]; omega
                      case rel => exact ⟨_, W, out', q + 1, rfl, by omega, by go_num, by rw [HL2.out]; exact own_below HW.out HB2.out, own_below HR.out HB2.out, Hs.out, HU.out, HBx.out.trans (HB2.out.mono hsx)⟩
                    · rw [HEC.out, ho] at HO
                      rw [HF.out] at hol
                      obtain ⟨t, ht⟩ : ∃ t, o / 3 = t := ⟨_, rfl⟩
                      have e1 : (o : Int) / 3 = (t : Int) := by omega
                      have htk : t < k := by omega
                      have ht3 : (t : Int) < (k : Int) := by omega
                      have ht0 : (0 : Int) ≤ (t : Int) := by omega
                      have ho0 : (0 : Int) ≤ (o : Int) := by omega
                      have ho1 : (o : Int) ≤ 100000 := by omega
                      have hd0 : decide (0 ≤ (o : Int)) = true := by simp
                      have holn : out'.length = k := by rw [HBF.out.len, HF.out]
                      have hco : wx.cell? ⟨w.heap.size, t, none⟩ = some (.int .i64 (at_ out' t)) := by rw [HR.out.cellAt t (by omega)]; exact intsV_at (by rw [holn]; exact htk)
                      have Hho := Lib.hid ho
                      have Hht := Lib.hid ht
                      have hgx := (HR.out.lt _ rfl).2
                      by_cases hneg : at_ out' t < 0
                      · have hd1 : decide (at_ out' t < 0) = true := by simpa using hneg
                        have Hs := Lib.hid (HBF.out.add HI.out HU.out hq3 ho (by rw [ht]; exact hneg))
                        rw [ht] at Hs
                        generalize at_ out' t = z at *
                        have c6 : L2 + 1 ≤ maxLen := by unfold maxLen; omega
                        have c7 : (L2 + 1) * 8 ≤ 140737488355328 := by omega
                        clear ho ht hneg holn
                        go_wp2_with fail
                        rw [HEC.out]
                        refine HO.out.mono ?_
                        rintro e w2 ⟨rfl, hb2⟩
                        have hco2 := (hb2.cell (p := ⟨w.heap.size, t, none⟩) hgx).trans hco
                        have hR2 := own_below HR.out hb2
                        have hfo2 := hR2.frozenAt t
                        have hst := hR2.stored t (.int .i64 (n : Int))
                        rw [intsV_set] at hst
                        have HST := Lib.hid hst
                        have hW2 := own_below HW.out hb2
                        have hgo2 := (hR2.lt _ rfl).2
                        have hW3 := hW2.kept hst.2 (.inr (by simp [Value.ownBlock]; omega))
                        have HB2 := Lib.hid hb2
                        have hsz2 := hb2.size
                        clear hb2 hcw hco hR2 hst hW2
                        go_wp2_with (at_builtin; refine wpList_append_lies _ rfl (.tmp 72) (.tmp 75) 28 rfl wz.heap.size 3 i2 _ 1 8 Tryz.underlying28 hj' hz0 hz1 hz2 rfl (by decide) _ L2 (intsV (nats W)) rfl (hW3.alloc _) ⟨w2.heap.size, 0, none⟩ 1 1 [.int .i64 t] rfl rfl (World.news_of_block (by have := heap_alloc_new (w2.setCell ⟨w.heap.size, t, none⟩ (.int .i64 (n : Int))) (.cells #[.int .i64 (t : Int)] 3); simpa using this)) (by simp [Value.oneCell']) (by decide) c6 c7 (by simp; omega) (w2.heap.size + 1) (by simp) ?_; intro g6 cap6 W6 hr6 hg6 hat6 _)
                        go_roundw
                        case measure => simp [intOf]; omega
                        case rel =>
                          have hO3 := (HST.out.1.alloc (.cells #[.int .i64 (t : Int)] 3)).kept hg6 (.inr (show some w.heap.size ≠ some gw from by simp; omega))
                          have hB3 := (((HBx.out.trans (HB2.out.mono hsx)).grown HST.out.2 (by omega) (fun j e => by cases e; exact Nat.le_refl _)).alloc (by simp; omega) (.cells #[.int .i64 (t : Int)] 3)).grown hg6 (by simp; omega) (fun j e => by have := (hW3.lt j e).1; omega)
                          refine ⟨_, W ++ [t], _, q + 1, rfl, by omega, by go_num, ?_, hO3, Hs.out, ?_, hB3⟩
                          · have hl3 : (W ++ [t]).length = L2 + 1 := by simp [HL2.out]
                            rw [hl3]
                            simpa [intsV, nats] using hr6
                          · rw [List.getElem?_append_left (by rw [HL2.out]; exact hiL)]
                            exact HU.out
                      · have hd1 : decide (at_ out' t < 0) = false := by simpa using hneg
                        have Hs := Lib.hid (HBF.out.step0 HU.out (fun o' e => by
                          rw [ho] at e
                          have : o = o' := by omega
                          subst this
                          exact HBF.out.old_in hE HI.out HU.out hq3 ho (by rw [ht]; omega)))
                        generalize at_ out' t = z at *
                        clear ho ht hneg holn
                        go_wp2_with fail
                        rw [HEC.out]
                        refine HO.out.mono ?_
                        rintro e w2 ⟨rfl, hb2⟩
                        have hco2 := (hb2.cell (p := ⟨w.heap.size, t, none⟩) hgx).trans hco
                        have HB2 := Lib.hid hb2
                        have hgo2 := (own_below HR.out hb2).lt _ rfl
                        clear hb2 hcw hco
                        go_wp2
                        go_roundw
                        case measure => simp [intOf]; omega
                        case rel => exact ⟨_, W, out', q + 1, rfl, by omega, by go_num, by rw [HL2.out]; exact own_below HW.out HB2.out, own_below HR.out HB2.out, Hs.out, HU.out, HBx.out.trans (HB2.out.mono hsx)⟩
                  · obtain rfl : q = 3 := by omega
                    have Hs := Lib.hid hbf.next
                    have HW := Lib.hid hW
                    have HR := Lib.hid hr
                    have HBx := Lib.hid hB
                    clear hbf hW hr hB hu
                    go_wp2
                    go_roundw
                    case measure => simp [intOf]; omega
                    case rel => exact ⟨v7, W, out', i + 1, rfl, by omega, by go_num, HW.out, HR.out, Hs.out, HBx.out⟩
              · obtain rfl : i = L := by omega
                have hfin := hbf
                rw [← HL.out] at hfin
                have Hs := Lib.hid (hfin.finish HI.out (by rw [HF.out]; exact hlt2))
                obtain ⟨aw, cw, rfl⟩ := ownsRow_slice hW
                have HR := Lib.hid hr
                have HBx := Lib.hid hB
                have hn0 : (n : Int) ≤ 8192 := by omega
                clear hbf hfin hW hr hB
                go_wp2
                go_roundw
                case measure => simp [intOf]; omega
                case rel => exact ⟨f + 1, n + 1, out', by omega, by omega, by go_num, by go_num, HR.out, Hs.out, HBx.out⟩
        · obtain rfl : f = k := by omega
          have hfi := OfInv.finish (by rw [HF.out]; exact hI)
          have HFI := Lib.hid hfi
          have HR := Lib.hid hr
          have HB := Lib.hid hB
          clear hfi hI hr hB
          go_wp2
          go_ret
          exact ⟨_, out, rfl, HR.out, HFI.out.1, fun j hj => by have := HFI.out.2.2 j (by rw [HF.out]; exact hj); omega, HB.out⟩
def cntL (out : List Int) : Int := out.foldl (fun n k => max n (k + 1)) 0
theorem cntL_take {out : List Int} {j : Nat} (h : j < out.length) : cntL (out.take (j + 1)) = max (cntL (out.take j)) (at_ out j + 1) := by
  unfold cntL
  rw [List.take_succ_eq_append_getElem h, List.foldl_append]
  simp [at_, List.getD, h]
theorem cntL_bd {out : List Int} {m : Int} (h : ∀ j, j < out.length → at_ out j < m) (hm : 0 ≤ m) : ∀ j, j ≤ out.length → 0 ≤ cntL (out.take j) ∧ cntL (out.take j) ≤ m
  | 0, _ => by simp [cntL]; omega
  | j + 1, hj => by
    have ih := cntL_bd h hm j (by omega)
    have := h j (by omega)
    rw [cntL_take (by omega)]
    omega
set_option maxRecDepth 100000 in
set_option maxHeartbeats 1000000 in
theorem count_any (g : Nat) (N : Int) (T : List Tr) (w : World) (h : Tab w g N T) (hE : (T.flatMap edges3).Nodup) : Calls Tryz.prog 72 #[.pointer (some ⟨g, 0, none⟩)] w fun e w' => ∃ out, e = .returned (.int .i64 (cntL out)) ∧ Shl T out ∧ (∀ j, j < T.length → at_ out j < T.length) ∧ Below w.heap.size w w' := by
  have H0 := Lib.hid (of_any g N T w h hE)
  have hl := h.len
  obtain ⟨F, hF⟩ : ∃ F, T.length = F := ⟨_, rfl⟩
  rw [hF] at hl H0 ⊢
  have HF := Lib.hid hF
  clear hF h
  go_enter Tryz.func72, Tryz.ntmps72
  go_wp2_with fail
  refine H0.out.mono ?_
  rintro e w1 ⟨v, out, rfl, hr, hS, hlt, hb⟩
  obtain ⟨av, cv, rfl⟩ := ownsRow_slice hr
  have hol : out.length = F := by rw [hS.len, HF.out]
  have hbd := cntL_bd (out := out) (m := (F : Int)) (fun j hj => hlt j (by omega)) (by omega)
  have HOL := Lib.hid hol
  have HBD := Lib.hid hbd
  have HR := Lib.hid hr
  have HS := Lib.hid hS
  have HLT := Lib.hid hlt
  clear hol hbd hr hS hlt H0
  go_wp2
  go_loop [3, 9] (fun n i => ∃ j : Nat, j ≤ F ∧ i = .int .i64 j ∧ n = .int .i64 (cntL (out.take j))) (fun _ i => F - (intOf i).toNat)
  case atStart => exact ⟨0, Nat.zero_le _, rfl, by simp [cntL]⟩
  case round =>
    obtain ⟨j, hj, rfl, rfl⟩ := hrel
    by_cases hjF : j < F
    · obtain ⟨g0, cap, e0, hg1, hg2⟩ := HR.out.form (by omega)
      cases e0
      have hc := HR.out.cellAt j (by omega)
      rw [intsV_at (by rw [HOL.out]; exact hjF)] at hc
      have Hst := Lib.hid (cntL_take (out := out) (j := j) (by rw [HOL.out]; exact hjF))
      obtain ⟨b0, b1⟩ := HBD.out j (by rw [HOL.out]; exact hj)
      obtain ⟨b2, b3⟩ := HBD.out (j + 1) (by rw [HOL.out]; exact hjF)
      have hk1 := HLT.out j hjF
      have hk0 := HS.out.nn j (by rw [HF.out]; exact hjF)
      rw [Hst.out] at b2 b3
      have hj3 : (j : Int) < (F : Int) := by omega
      generalize cntL (out.take j) = z at *
      generalize at_ out j = y at *
      go_wp2
      go_round
      case measure => simp [intOf]; omega
      case rel => exact ⟨j + 1, by omega, by go_num, by rw [Hst.out]⟩
    · obtain rfl : j = F := by omega
      have e : out.take j = out := List.take_of_length_le (by rw [HOL.out]; omega)
      have HE := Lib.hid e
      clear e
      go_wp2
      go_ret
      exact ⟨out, by rw [HE.out]; rfl, HS.out, HLT.out, hb⟩
end Go.Proofs.YtghlnknncahkgaaGreat
/-
  genus: the shell of a vertex; what follows from the other numbers.
-/
namespace Go.Proofs.YtghlnknncahkgaaGreat
open Go.RowKit Go.Maps

theorem cornI_rng {N : Int} {T : List Tr} (hS : Surf N T) {v : Int} (hv : 0 ≤ v ∧ v < N) : ∃ c : Nat, cornI N T v = (c : Int) ∧ c < 3 * T.length := by
  unfold cornI
  rw [if_pos hv]
  refine ⟨_, rfl, ?_⟩
  cases h : fstFrom T 0 v with
  | some c =>
    unfold fstFrom at h
    have := List.mem_of_find?_eq_some h
    have := List.mem_range'_1.1 this
    simp only [Option.getD_some]
    omega
  | none =>
    have := hS.lonely v hv
    have hp : T ≠ [] := by
      rintro rfl
      simp [flatT] at this
    have := List.length_pos_iff.2 hp
    simp only [Option.getD_none]
    omega
set_option maxHeartbeats 1000000 in
/-- genus.Of$1: the shell of a vertex. -/
theorem gat_any (g Bs Bt : Nat) (N v : Int) (T : List Tr) (out : List Int) (av : Option Addr) (cv base : Nat) (W : World) (hS : Surf N T) (hT : Tab W g N T) (hs : W.cell? ⟨Bs, 0, none⟩ = some (.slice av T.length cv)) (ht : W.cell? ⟨Bt, 0, none⟩ = some (.pointer (some ⟨g, 0, none⟩))) (_ls : Bs < W.heap.size) (_lt : Bt < W.heap.size)
    (hr : W.ownsRow base 3 1 (.slice av T.length cv) T.length (intsV out)) (hl : out.length = T.length) (hv : 0 ≤ v ∧ v < N) :
    Calls Tryz.prog 107 #[.int .i64 v, .pointer (some ⟨Bs, 0, none⟩), .pointer (some ⟨Bt, 0, none⟩)] W fun e w' => ∃ i : Nat, e = .returned (.int .i64 (at_ out i)) ∧ i < T.length ∧ Below W.heap.size W w' := by
  obtain ⟨c, hc, hlt⟩ := cornI_rng hS hv
  have H0 := Lib.hid (fun (W' : World) (hW : Below W.heap.size W W') => (show Calls Tryz.prog 108 #[.pointer (some ⟨g, 0, none⟩), .int .i64 v] W' fun e w' => e = .returned (.int .i64 (c : Int)) ∧ Below W'.heap.size W' w' from by
    have := corner_any g N v T W' (hT.below hW)
    rw [hc] at this
    exact this.mono fun e w' h => ⟨h.1, by rw [← h.2]; exact Below.refl _ _⟩))
  have hi : c / 3 < T.length := by omega
  have hcell : W.cell? (⟨(match av with | some a => a.block | none => 0), c / 3, none⟩ : Addr) = some (.int .i64 (at_ out (c / 3))) := by
    obtain ⟨g0, cap, e0, hg1, hg2⟩ := hr.form (by omega)
    cases e0
    rw [hr.cellAt (c / 3) (by omega)]
    exact intsV_at (by omega)
  obtain ⟨g0, cap, e0, hg1, hg2⟩ := hr.form (by omega)
  cases e0
  simp only at hcell
  have hl2 := hT.len
  obtain ⟨F, hF⟩ : ∃ F, T.length = F := ⟨_, rfl⟩
  rw [hF] at hs hi hl2 hlt ⊢
  have HI := Lib.hid hi
  have i3 : ((c / 3 : Nat) : Int) < (F : Int) := by omega
  have i4 : (c : Int).tdiv 3 = ((c / 3 : Nat) : Int) := by
    rw [Int.tdiv_eq_ediv_of_nonneg (by omega)]; rfl
  have i5 : (0 : Int) ≤ ((c / 3 : Nat) : Int) := by omega
  have q0 := cell_regrown hs
  have q1 := cell_regrown ht
  have q2 := cell_regrown hcell
  clear hr hT hS hF
  go_enter Tryz.func107, Tryz.ntmps107
  go_upto_region 1 with fail
  refine wp_region_quiet_below (by kernel_rfl) (by kernel_rfl) ?_
  repeat (go_big_quiet_step ((go_at_call 108; exact Calls.regrown_of (H0.out _ (below_regrown W _ _)))))
  refine wpQuiet_nil ?_
  intro _ hw'
  obtain ⟨⟨dq, osq⟩, hw''⟩ := hw'
  subst hw''
  have hB1 := below_regrown W dq osq
  generalize Sort.grow (redrawn W dq) osq = w1 at *
  go_wp2
  go_ret
  exact ⟨_, rfl, HI.out, hB1⟩
set_option maxHeartbeats 1000000 in
/-- Numbers.done. -/
theorem gdone_any (g o : Nat) (V F B tw z1 z4 z5 : Int) (W : World) (c0 : W.cell? ⟨g, o, none⟩ = some (.int .i64 V)) (c1 : W.cell? ⟨g, o + 1, none⟩ = some (.int .i64 z1)) (c2 : W.cell? ⟨g, o + 2, none⟩ = some (.int .i64 F)) (c3 : W.cell? ⟨g, o + 3, none⟩ = some (.int .i64 B)) (c4 : W.cell? ⟨g, o + 4, none⟩ = some (.int .i64 z4)) (c5 : W.cell? ⟨g, o + 5, none⟩ = some (.int .i64 z5))
    (fz : ∀ k, W.frozen? ⟨g, k, none⟩ = false) (_hg : g < W.heap.size) (hV : 0 ≤ V ∧ V ≤ 100000) (hF : 0 ≤ F ∧ F ≤ 100000) (hB : 0 ≤ B ∧ B ≤ 100000) (ht : 0 ≤ tw ∧ tw ≤ 100000) :
    Calls Tryz.prog 110 #[.pointer (some ⟨g, o, none⟩), .int .i64 tw] W fun e w' => (∃ v, e = .returned v) ∧ w' = (((W.setCell ⟨g, o + 1, none⟩ (.int .i64 (tw / 2))).setCell ⟨g, o + 4, none⟩ (.int .i64 (V - tw / 2 + F))).setCell ⟨g, o + 5, none⟩ (.int .i64 ((2 - B - (V - tw / 2 + F)).tdiv 2))).drew.drew := by
  have i4 : tw.tdiv 2 = tw / 2 := Int.tdiv_eq_ediv_of_nonneg (by omega)
  have f1 := fz (o + 1)
  have f4 := fz (o + 4)
  have f5 := fz (o + 5)
  go_enter Tryz.func110, Tryz.ntmps110
  go_wp2
  go_region
  go_wp2
  go_region
  go_end0
  exact ⟨⟨_, rfl⟩, rfl⟩
theorem made6 (m : Nat) : (madeCells (Value.agg #[.int .i64 0, .int .i64 0, .int .i64 0, .int .i64 0, .int .i64 0, .int .i64 0]).cells (m * 6)).toList = intsV (List.replicate (m * 6) 0) := by
  apply List.ext_getElem
  · simp [madeCells, intsV]
  · intro i h1 h2
    have h3 : i % 6 < 6 := Nat.mod_lt _ (by omega)
    simp only [madeCells, Value.cells, intsV, List.getElem_map, List.getElem_replicate, Array.toList_map, Array.toList_range, List.getElem_range, List.size_toArray, List.length_cons, List.length_nil, Nat.reduceAdd]
    have : ∀ j, j < 6 → (#[Value.int .i64 0, .int .i64 0, .int .i64 0, .int .i64 0, .int .i64 0, .int .i64 0] : Array Value)[j]! = .int .i64 0 := by
      intro j hj
      have : j = 0 ∨ j = 1 ∨ j = 2 ∨ j = 3 ∨ j = 4 ∨ j = 5 := by omega
      rcases this with rfl | rfl | rfl | rfl | rfl | rfl <;> rfl
    exact this _ h3
theorem infoNums : (Tryz.prog.info? 142).map (fun i => (i.zero, i.size, i.bytes)) = some (some (.agg #[.int .i64 0, .int .i64 0, .int .i64 0, .int .i64 0, .int .i64 0, .int .i64 0]), 6, 48) := by kernel_rfl
end Go.Proofs.YtghlnknncahkgaaGreat
/-
  genus.Of, by walking its text.
-/
namespace Go.Proofs.YtghlnknncahkgaaGreat
open Go.RowKit Go.Maps

/-- The border's loops, as border.Loops hands them back. -/
def LoopsPost (n : Nat) (T : List Tr) (w : World) (e : Ending) (w' : World) : Prop :=
  ∃ v us, ∃ L : List (List Int), e = .returned v ∧ w'.ownsRow w.heap.size 28 1 v L.length us ∧ L.length ≤ n ∧
    (∀ (i : Nat) (u : Value) (r : List Int), us[i]? = some u → L[i]? = some r → w'.ownsRow w.heap.size 3 1 u r.length (intsV r) ∧ ∃ a r', r = a :: r' ∧ 0 ≤ a ∧ a < n) ∧ (L = [] ↔ ClosedT T) ∧ Below w.heap.size w w'
theorem own_base {w : World} {base base' n s : Nat} {e : TypeId} {v : Value} {xs : List Value} (h : w.ownsRow base e s v n xs) (hb : base' ≤ base) : w.ownsRow base' e s v n xs := by
  obtain ⟨h1, h2 | ⟨g, cap, cur, rfl, a1, a2⟩⟩ := h
  · exact ⟨h1, .inl h2⟩
  · exact ⟨h1, .inr ⟨g, cap, cur, rfl, Nat.le_trans hb a1, a2⟩⟩
theorem cnt_ge {out : List Int} : ∀ (k : Nat), k ≤ out.length → ∀ j, j < k → at_ out j + 1 ≤ cntL (out.take k)
  | 0, _, j, hj => by omega
  | k + 1, hk, j, hj => by
    rw [cntL_take (j := k) (out := out) (by omega)]
    rcases Nat.lt_or_ge j k with h | h
    · have := cnt_ge (out := out) k (by omega) j h
      omega
    · obtain rfl : j = k := by omega
      omega
theorem at_lt {out : List Int} {j : Nat} (hj : j < out.length) : at_ out j < cntL out := by
  have := cnt_ge (out := out) out.length (Nat.le_refl _) j hj
  rw [List.take_length] at this
  omega
/-- The numbers while they are counted: rows of the shells' numbers and of the ends of edges. -/
structure GI (W2 : World) (T : List Tr) (m : Nat) (vO vT : Value) (cs tw : List Int) (W : World) : Prop where
  below : Below W2.heap.size W2 W
  out : W.ownsRow W2.heap.size 142 6 vO m (intsV cs)
  two : W.ownsRow W2.heap.size 3 1 vT m (intsV tw)
  cl : cs.length = m * 6
  tl : tw.length = m
  cb : ∀ x ∈ cs, 0 ≤ x ∧ x ≤ 30000
  tb : ∀ x ∈ tw, 0 ≤ x ∧ x ≤ 60000
theorem at_mem {l : List Int} {j : Nat} (h : j < l.length) : at_ l j ∈ l := by
  unfold at_
  rw [List.getD_eq_getElem?_getD, List.getElem?_eq_getElem h]
  exact List.getElem_mem _
section
variable {W2 W W' : World} {T : List Tr} {m i : Nat} {vO vT : Value} {cs tw : List Int}
theorem GI.le (h : GI W2 T m vO vT cs tw W) (hb : Below W.heap.size W W') : GI W2 T m vO vT cs tw W' :=
  ⟨h.below.trans (hb.mono h.below.size), own_below h.out hb, own_below h.two hb, h.cl, h.tl, h.cb, h.tb⟩
theorem GI.putO {gO cO : Nat} (h : GI W2 T m (.slice (some ⟨gO, 0, none⟩) m cO) vT cs tw W) (j : Nat) (x : Int) (hx : 0 ≤ x ∧ x ≤ 30000) : GI W2 T m (.slice (some ⟨gO, 0, none⟩) m cO) vT (cs.set j x) tw (W.setCell ⟨gO, j, none⟩ (.int .i64 x)) := by
  obtain ⟨k1, k2⟩ := h.out.stored j (.int .i64 x)
  rw [intsV_set] at k1
  refine ⟨h.below.grown k2 h.below.size (fun k e => (h.out.lt k e).1), k1, h.two.kept k2 (own_own_ne h.two h.out (by decide)), by rw [List.length_set]; exact h.cl, h.tl, fun y hy => ?_, h.tb⟩
  rcases List.mem_or_eq_of_mem_set hy with hy | rfl
  · exact h.cb y hy
  · exact hx
theorem GI.putT {gT cT : Nat} (h : GI W2 T m vO (.slice (some ⟨gT, 0, none⟩) m cT) cs tw W) (j : Nat) (x : Int) (hx : 0 ≤ x ∧ x ≤ 60000) : GI W2 T m vO (.slice (some ⟨gT, 0, none⟩) m cT) cs (tw.set j x) (W.setCell ⟨gT, j, none⟩ (.int .i64 x)) := by
  obtain ⟨k1, k2⟩ := h.two.stored j (.int .i64 x)
  rw [intsV_set] at k1
  refine ⟨h.below.grown k2 h.below.size (fun k e => (h.two.lt k e).1), h.out.kept k2 (own_own_ne h.out h.two (by decide)), k1, h.cl, by rw [List.length_set]; exact h.tl, h.cb, fun y hy => ?_⟩
  rcases List.mem_or_eq_of_mem_set hy with hy | rfl
  · exact h.tb y hy
  · exact hx
theorem GI.cellO {gO cO : Nat} (h : GI W2 T m (.slice (some ⟨gO, 0, none⟩) m cO) vT cs tw W) (f : Nat) (hi : i < m) (hf : f < 6) : W.cell? ⟨gO, i * 6 + f, none⟩ = some (.int .i64 (at_ cs (i * 6 + f))) ∧ W.frozen? ⟨gO, i * 6 + f, none⟩ = false ∧ 0 ≤ at_ cs (i * 6 + f) ∧ at_ cs (i * 6 + f) ≤ 30000 ∧ gO < W.heap.size := by
  have hj : i * 6 + f < cs.length := by rw [h.cl]; omega
  refine ⟨by rw [h.out.cellAt _ (by omega)]; exact intsV_at hj, h.out.frozenAt _, ?_⟩
  have hm : at_ cs (i * 6 + f) ∈ cs := by
    unfold at_
    rw [List.getD_eq_getElem?_getD, List.getElem?_eq_getElem hj]
    exact List.getElem_mem _
  exact ⟨(h.cb _ hm).1, (h.cb _ hm).2, (h.out.lt gO rfl).2⟩
theorem GI.cellT {gT cT : Nat} (h : GI W2 T m vO (.slice (some ⟨gT, 0, none⟩) m cT) cs tw W) (hi : i < m) : W.cell? ⟨gT, i, none⟩ = some (.int .i64 (at_ tw i)) ∧ W.frozen? ⟨gT, i, none⟩ = false ∧ 0 ≤ at_ tw i ∧ at_ tw i ≤ 60000 ∧ gT < W.heap.size := by
  have hj : i < tw.length := by rw [h.tl]; omega
  refine ⟨by rw [h.two.cellAt _ (by omega)]; exact intsV_at hj, h.two.frozenAt _, ?_⟩
  have hm : at_ tw i ∈ tw := by
    unfold at_
    rw [List.getD_eq_getElem?_getD, List.getElem?_eq_getElem hj]
    exact List.getElem_mem _
  exact ⟨(h.tb _ hm).1, (h.tb _ hm).2, (h.two.lt gT rfl).2⟩
end

set_option maxRecDepth 100000 in
set_option maxHeartbeats 4000000 in
theorem genus_any (g n : Nat) (T : List Tr) (w : World) (hT : Tab w g n T) (hS : Surf n T) (hL : ∀ W, Below w.heap.size w W → Calls Tryz.prog 109 #[.pointer (some ⟨g, 0, none⟩)] W (LoopsPost n T W)) :
    Calls Tryz.prog 82 #[.pointer (some ⟨g, 0, none⟩)] w fun e w' => ∃ (v : Value) (out : List Int) (m : Nat) (cs : List Int), e = .returned v ∧ Shl T out ∧ cntL out = m ∧ w'.ownsRow w.heap.size 142 6 v m (intsV cs) ∧
      (m = 1 → ∃ E b : Int, cs = [(n : Int), E, T.length, b, n - E + T.length, (2 - b - (n - E + T.length)).tdiv 2] ∧ 0 ≤ b ∧ (b = 0 ↔ ClosedT T) ∧ (ClosedT T → E = 3 * (T.length : Int) / 2)) ∧ Below w.heap.size w w' := by
  have hl := hT.len
  have hn1 := hS.n1
  have b1 := Blk.new w 26 #[.pointer (some ⟨g, 0, none⟩)]
  have hB1 : Below w.heap.size w (w.alloc (.cells #[.pointer (some ⟨g, 0, none⟩)] 26)) := (Below.refl _ _).alloc (Nat.le_refl _) _
  have HOf := Lib.hid (of_any g n T _ (hT.below hB1) hS.twice)
  have HT := Lib.hid hT
  have HS := Lib.hid hS
  have HL := Lib.hid hL
  obtain ⟨F, hF⟩ : ∃ F, T.length = F := ⟨_, rfl⟩
  rw [hF] at hl HOf ⊢
  have HF := Lib.hid hF
  clear hF hT hS hL
  obtain ⟨i0, hi0, hx0, hx1, hx2⟩ := info_parts infoNums
  obtain ⟨i2, hi2, hy0, hy1, hy2⟩ := info_parts infoInt
  go_enter Tryz.func82, Tryz.ntmps82
  go_wp2_with fail
  refine HOf.out.mono ?_
  rintro e w1 ⟨v, out, rfl, hr, hSh, hlt, hB⟩
  obtain ⟨av, cv, rfl⟩ := ownsRow_slice hr
  have hz1 := hB.size
  have hB2 : Below w.heap.size w (w1.alloc (.cells #[.slice av F cv] 28)) := (hB1.trans (hB.mono hB1.size)).alloc (by have := hB1.size; omega) _
  have bt2 := (b1.below hB b1.lt).alloc (.cells #[.slice av F cv] 28)
  have bs2 := Blk.new w1 28 #[.slice av F cv]
  have hr2 := hr.alloc (.cells #[.slice av F cv] 28)
  have HB2 := Lib.hid hB2
  have HBt := Lib.hid bt2
  have HBs := Lib.hid bs2
  have HR2 := Lib.hid hr2
  have HSh := Lib.hid hSh
  have HLT := Lib.hid hlt
  clear hB hB1 hB2 b1 bt2 bs2 hr hr2 hSh hlt HOf
  go_upto_region 2 with fail
  generalize w1.alloc (.cells #[.slice av F cv] 28) = W2 at *
  have HTW := Lib.hid (fun (W : World) (hW : Below W2.heap.size W2 W) => HT.out.below (HB2.out.trans (hW.mono HB2.out.size)))
  have HCn := Lib.hid (count_any g n T W2 (HTW.out W2 (Below.refl _ _)) HS.out.twice)
  have hz2 := HB2.out.size
  obtain ⟨lt0, x0, -⟩ := HBt.out.one
  obtain ⟨ls0, y0, -⟩ := HBs.out.one
  go_wp2_with fail
  refine HCn.out.mono ?_
  rintro e w3 ⟨out', rfl, hSh', -, hB3⟩
  obtain rfl := HSh.out.one hSh'
  clear hSh' HCn
  have hol : out.length = F := by rw [HSh.out.len]; exact HF.out
  have HOL := Lib.hid hol
  have hcm0 : 0 ≤ cntL out ∧ cntL out ≤ F := by
    have := cntL_bd (out := out) (m := (F : Int)) (fun j hj => HLT.out j (by omega)) (by omega) out.length (Nat.le_refl _)
    rwa [List.take_length] at this
  obtain ⟨m, hm⟩ : ∃ m : Nat, cntL out = m := ⟨(cntL out).toNat, by omega⟩
  have HM := Lib.hid hm
  have hlm : ∀ j, j < F → 0 ≤ at_ out j ∧ at_ out j < m := fun j hj => ⟨HSh.out.nn j (by rw [HF.out]; exact hj), by rw [← hm]; exact at_lt (by rw [hol]; exact hj)⟩
  have HLM := Lib.hid hlm
  have hmF : m ≤ F := by omega
  rw [hm]
  clear hol hcm0 hm hlm
  go_upto_region 5 with (first
    | (at_make; refine wpList_make_full _ rfl (.tmp 17) (.tmp 17) 139 rfl W2.heap.size 142 i0 _ 6 Tryz.underlying139 hi0 hx0 hx1 .i64 .i64 _ _ m rfl rfl rfl rfl (by rw [hx2]; omega) (by unfold maxLen; omega) hB3.size ?_; intro w4 hr4 hg4)
    | (at_make; refine wpList_make_full _ rfl (.tmp 20) (.tmp 20) 28 rfl W2.heap.size 3 i2 _ 1 Tryz.underlying28 hi2 hy0 hy1 .i64 .i64 _ _ m rfl rfl rfl rfl (by rw [hy2]; omega) (by unfold maxLen; omega) (Nat.le_trans hB3.size hg4.size) ?_; intro w5 hr5 hg5))
  rw [made6] at hr4
  rw [made_ints] at hr5
  have hG0 : GI W2 T m (.slice (some ⟨w3.heap.size, 0, none⟩) m m) (.slice (some ⟨w4.heap.size, 0, none⟩) m m) (List.replicate (m * 6) 0) (List.replicate m 0) w5 :=
    ⟨(hB3.grown hg4 hB3.size (fun j e => by cases e)).grown hg5 (Nat.le_trans hB3.size hg4.size) (fun j e => by cases e), hr4.kept hg5 (.inr (by simp [Value.ownBlock])), by simpa [intsV] using hr5, by simp, by simp, fun x hx => by rw [List.eq_of_mem_replicate hx]; omega, fun x hx => by rw [List.eq_of_mem_replicate hx]; omega⟩
  have HG0 := Lib.hid hG0
  clear hr4 hg4 hr5 hg5 hB3 hG0 hi0 hx0 hx1 hx2 hi2 hy0 hy1 hy2
  generalize w3.heap.size = gO at *
  generalize w4.heap.size = gT at *
  rename World => wA
  have hBA := HG0.out.below
  have hzA := hBA.size
  have xA := (hBA.cell (p := ⟨w.heap.size, 0, none⟩) lt0).trans x0
  have yA := (hBA.cell (p := ⟨w1.heap.size, 0, none⟩) ls0).trans y0
  clear hBA
  go_wp2
  go_loopw [25] (fun ix wr => ∃ (k : Nat) (cs tw : List Int), k ≤ F ∧ ix = .int .i64 k ∧ GI W2 T m (.slice (some ⟨gO, 0, none⟩) m m) (.slice (some ⟨gT, 0, none⟩) m m) cs tw wr ∧ (∀ x ∈ cs, x ≤ k) ∧ (∀ x ∈ tw, x ≤ 6 * k) ∧ (m = 1 → cs = [0, 0, (k : Int), 0, 0, 0] ∧ (ClosedT T → tw = [3 * (k : Int)]))) (fun ix _ => F - (intOf ix).toNat)
  case atStart => exact ⟨0, _, _, Nat.zero_le _, rfl, HG0.out, fun x hx => by rw [List.eq_of_mem_replicate hx]; omega, fun x hx => by rw [List.eq_of_mem_replicate hx]; omega, fun h => by subst h; exact ⟨rfl, fun _ => rfl⟩⟩
  case round =>
    clear HG0 xA yA hzA
    rename World => wr
    obtain ⟨k, cs, tw, hk, rfl, hG, hc1, ht1, h1⟩ := hrel
    have hBr := hG.below
    have hzr := hBr.size
    have xr := (hBr.cell (p := ⟨w.heap.size, 0, none⟩) lt0).trans x0
    have yr := (hBr.cell (p := ⟨w1.heap.size, 0, none⟩) ls0).trans y0
    by_cases hlt : k < F
    · obtain ⟨g0, cap, e0, hg1, hg2⟩ := HR2.out.form (by omega)
      cases e0
      have hrc := (hBr.cell (p := ⟨g0, k, none⟩) hg2).trans (HR2.out.cellAt k (by omega))
      rw [intsV_at (by rw [HOL.out]; exact hlt)] at hrc
      obtain ⟨i, hi⟩ : ∃ i : Nat, at_ out k = i := ⟨(at_ out k).toNat, by have := HLM.out k hlt; omega⟩
      have him : i < m := by have := HLM.out k hlt; omega
      rw [hi] at hrc
      obtain ⟨o1, o2, o3, o4, o5⟩ := hG.cellO 2 him (by omega)
      have hmO : at_ cs (i * 6 + 2) ∈ cs := by
        have hj : i * 6 + 2 < cs.length := by rw [hG.cl]; omega
        unfold at_
        rw [List.getD_eq_getElem?_getD, List.getElem?_eq_getElem hj]
        exact List.getElem_mem _
      have o6 := hc1 _ hmO
      have hG2 := hG.putO (i * 6 + 2) (at_ cs (i * 6 + 2) + 1) (by omega)
      have hc2 : ∀ x ∈ cs.set (i * 6 + 2) (at_ cs (i * 6 + 2) + 1), x ≤ (k : Int) + 1 := fun x hx => by
        rcases List.mem_or_eq_of_mem_set hx with hx | rfl
        · have := hc1 x hx; omega
        · omega
      have h2 : m = 1 → cs.set (i * 6 + 2) (at_ cs (i * 6 + 2) + 1) = [0, 0, (k : Int) + 1, 0, 0, 0] := fun h => by
        obtain rfl : i = 0 := by omega
        rw [(h1 h).1]
        rfl
      have h3 : m = 1 → ClosedT T → tw = [3 * (k : Int)] := fun h hc => (h1 h).2 hc
      have k3 : (k : Int) < (F : Int) := by omega
      have i3 : (i : Int) < (m : Int) := by omega
      have HG2 := Lib.hid hG2
      have HC2 := Lib.hid hc2
      have HT1 := Lib.hid ht1
      have H2 := Lib.hid h2
      have H3 := Lib.hid h3
      have HI := Lib.hid hi
      generalize cs.set (i * 6 + 2) (at_ cs (i * 6 + 2) + 1) = cs2 at *
      generalize at_ cs (i * 6 + 2) = z at *
      clear hG hG2 hc1 hc2 ht1 h1 h2 h3 hmO hBr hi
      go_wp2
      generalize (wr.setCell ⟨gO, i * 6 + 2, none⟩ (.int .i64 (z + 1))) = wB at *
      go_loopw [9] (fun cq wq => ∃ (j : Nat) (tw2 : List Int), j ≤ 3 ∧ cq = .int .i64 (3 * (k : Int) + (j : Int)) ∧ GI W2 T m (.slice (some ⟨gO, 0, none⟩) m m) (.slice (some ⟨gT, 0, none⟩) m m) cs2 tw2 wq ∧ (∀ x ∈ tw2, x ≤ 6 * (k : Int) + 2 * (j : Int)) ∧ (m = 1 → ClosedT T → tw2 = [3 * (k : Int) + (j : Int)])) (fun cq _ => 3 * k + 3 - (intOf cq).toNat)
      case atStart => exact ⟨0, tw, by omega, by simp, HG2.out, fun x hx => by have := HT1.out x hx; omega, fun h hc => by rw [H3.out h hc]; simp⟩
      case round =>
        rename World => wq
        obtain ⟨j, tw2, hj, rfl, hG, ht2, h4⟩ := hrel
        clear HG2 H3 HT1
        have hBr := hG.below
        have hzr := hBr.size
        have xr := (hBr.cell (p := ⟨w.heap.size, 0, none⟩) lt0).trans x0
        by_cases hj3 : j < 3
        · obtain ⟨o1, o2, o3, o4, o5⟩ := hG.cellT him
          have o6 := ht2 _ (at_mem (l := tw2) (j := i) (by rw [hG.tl]; exact him))
          have hG3 := hG.putT i (at_ tw2 i + 1) (by omega)
          have ht3 : ∀ x ∈ tw2.set i (at_ tw2 i + 1), x ≤ 6 * (k : Int) + 2 * (j : Int) + 1 := fun x hx => by
            rcases List.mem_or_eq_of_mem_set hx with hx | rfl
            · have := ht2 x hx; omega
            · omega
          have h5 : m = 1 → ClosedT T → tw2.set i (at_ tw2 i + 1) = [3 * (k : Int) + (j : Int) + 1] := fun h hc => by
            obtain rfl : i = 0 := by omega
            rw [h4 h hc]
            rfl
          have HG3 := Lib.hid hG3
          have HT3 := Lib.hid ht3
          have H5 := Lib.hid h5
          have j3 : 3 * (k : Int) + (j : Int) < 3 * (k : Int) + 3 := by omega
          generalize tw2.set i (at_ tw2 i + 1) = tw3 at *
          generalize at_ tw2 i = y at *
          clear hG hG3 ht2 ht3 h4 h5 hBr
          go_upto_region 13 with fail
          generalize (wq.setCell ⟨gT, i, none⟩ (.int .i64 (y + 1))) = wC at *
          have hBC := HG3.out.below
          have xC := (hBC.cell (p := ⟨w.heap.size, 0, none⟩) lt0).trans x0
          have HOp := Lib.hid (opp_any g n (3 * (k : Int) + (j : Int)) T wC (HTW.out wC hBC))
          clear hBC
          go_wp2_with fail
          refine HOp.out.mono ?_
          rintro e wD ⟨rfl, hbD⟩
          have hG4 := HG3.out.le hbD
          have hcl : ClosedT T → 0 ≤ oppI T (3 * (k : Int) + (j : Int)) := fun hc => by
            have := hc (3 * k + j) (by rw [HF.out]; omega)
            have e : ((3 * k + j : Nat) : Int) = 3 * (k : Int) + (j : Int) := by omega
            rwa [e] at this
          have HCl := Lib.hid hcl
          clear hcl hbD xC
          by_cases hop : oppI T (3 * (k : Int) + (j : Int)) < 0
          · obtain ⟨p1, p2, p3, p4, p5⟩ := hG4.cellT him
            have p6 := HT3.out _ (at_mem (l := tw3) (j := i) (by rw [hG4.tl]; exact him))
            have hG5 := hG4.putT i (at_ tw3 i + 1) (by omega)
            have ht5 : ∀ x ∈ tw3.set i (at_ tw3 i + 1), x ≤ 6 * (k : Int) + 2 * ((j : Int) + 1) := fun x hx => by
              rcases List.mem_or_eq_of_mem_set hx with hx | rfl
              · have := HT3.out x hx; omega
              · omega
            have HG5 := Lib.hid hG5
            have HT5 := Lib.hid ht5
            generalize tw3.set i (at_ tw3 i + 1) = tw5 at *
            generalize at_ tw3 i = x at *
            clear hG4 hG5 ht5
            go_wp2
            go_roundw
            case measure => simp [intOf]; omega
            case rel => exact ⟨j + 1, tw5, by omega, by go_num, HG5.out, fun x hx => by have := HT5.out x hx; push_cast; omega, fun h hc => by have := HCl.out hc; omega⟩
          · have HG4 := Lib.hid hG4
            clear hG4
            go_wp2
            go_roundw
            case measure => simp [intOf]; omega
            case rel => exact ⟨j + 1, tw3, by omega, by go_num, HG4.out, fun x hx => by have := HT3.out x hx; push_cast; omega, fun h hc => by rw [H5.out h hc]; congr 1⟩
        · obtain rfl : j = 3 := by omega
          have HG := Lib.hid hG
          have HT2 := Lib.hid ht2
          have H4 := Lib.hid h4
          clear hG ht2 h4
          go_wp2
          go_roundw
          case measure => simp [intOf]; omega
          case rel => exact ⟨k + 1, cs2, tw2, by omega, by go_num, HG.out, fun x hx => by have := HC2.out x hx; push_cast; omega, fun x hx => by have := HT2.out x hx; push_cast; omega, fun h => ⟨by rw [H2.out h]; push_cast; rfl, fun hc => by rw [H4.out h hc]; congr 1⟩⟩
    · obtain rfl : F = k := by omega
      have HG := Lib.hid hG
      have HC1 := Lib.hid hc1
      have HT1 := Lib.hid ht1
      have H1 := Lib.hid h1
      have HVs := Lib.hid (vertices_any g n T wr (HTW.out wr hBr).toTabS)
      have hn : n ≤ 4096 := by omega
      have HAt := Lib.hid (fun (W : World) (hW : Below W2.heap.size W2 W) (v : Int) (hv : 0 ≤ v ∧ v < n) => (show Calls Tryz.prog 107 #[.int .i64 v, .pointer (some ⟨w1.heap.size, 0, none⟩), .pointer (some ⟨w.heap.size, 0, none⟩)] W fun e w' => ∃ q : Nat, e = .returned (.int .i64 (q : Int)) ∧ q < m ∧ Below W.heap.size W w' from by
        have hzW := hW.size
        have hrW := own_below HR2.out hW
        rw [← HF.out] at hrW
        refine (gat_any g w1.heap.size w.heap.size n v T out av cv _ W HS.out (HTW.out W hW) ((hW.cell (p := ⟨w1.heap.size, 0, none⟩) ls0).trans (by rw [HF.out]; exact y0)) ((hW.cell (p := ⟨w.heap.size, 0, none⟩) lt0).trans x0) (by omega) (by omega) hrW HSh.out.len hv).mono ?_
        rintro e w' ⟨i, rfl, hi, hb⟩
        rw [HF.out] at hi
        have := HLM.out i hi
        exact ⟨(at_ out i).toNat, by congr 2; omega, by omega, hb⟩))
      clear hG hc1 ht1 h1 yr hBr hzr
      go_wp2_with fail
      refine HVs.out.mono ?_
      rintro e wE ⟨rfl, rfl⟩
      clear HVs
      go_upto_region 17 with fail
      go_loopw [66] (fun ix wr => ∃ (v : Nat) (cs : List Int), v ≤ n ∧ ix = .int .i64 v ∧ GI W2 T m (.slice (some ⟨gO, 0, none⟩) m m) (.slice (some ⟨gT, 0, none⟩) m m) cs tw wr ∧ (∀ x ∈ cs, x ≤ (F : Int) + v) ∧ (m = 1 → cs = [(v : Int), 0, (F : Int), 0, 0, 0])) (fun ix _ => n - (intOf ix).toNat)
      case atStart => exact ⟨0, cs, Nat.zero_le _, rfl, HG.out, fun x hx => by have := HC1.out x hx; omega, fun h => (H1.out h).1⟩
      case round =>
        clear HG HC1 xr
        rename World => wq
        obtain ⟨v, cs3, hv, rfl, hG, hc1, h1⟩ := hrel
        by_cases hvn : v < n
        · have k3 : (v : Int) < (n : Int) := by omega
          have HAv := Lib.hid (HAt.out wq hG.below (v : Int) (by omega))
          have HG := Lib.hid hG
          clear hG
          go_wp2_with fail
          refine HAv.out.mono ?_
          rintro e wF ⟨q, rfl, hqm, hbF⟩
          have hG := HG.out.le hbF
          obtain ⟨o1, o2, o3, o4, o5⟩ := hG.cellO 0 hqm (by omega)
          simp only [Nat.add_zero] at o1 o2 o3 o4
          have o6 := hc1 _ (at_mem (l := cs3) (j := q * 6) (by rw [hG.cl]; omega))
          have hG2 := hG.putO (q * 6) (at_ cs3 (q * 6) + 1) (by omega)
          have hc2 : ∀ x ∈ cs3.set (q * 6) (at_ cs3 (q * 6) + 1), x ≤ (F : Int) + (v : Int) + 1 := fun x hx => by
            rcases List.mem_or_eq_of_mem_set hx with hx | rfl
            · have := hc1 x hx; omega
            · omega
          have h2 : m = 1 → cs3.set (q * 6) (at_ cs3 (q * 6) + 1) = [(v : Int) + 1, 0, (F : Int), 0, 0, 0] := fun h => by
            obtain rfl : q = 0 := by omega
            rw [h1 h]
            rfl
          have q3 : (q : Int) < (m : Int) := by omega
          have HG2 := Lib.hid hG2
          have HC2 := Lib.hid hc2
          have H2 := Lib.hid h2
          generalize cs3.set (q * 6) (at_ cs3 (q * 6) + 1) = cs4 at *
          generalize at_ cs3 (q * 6) = z at *
          clear hG hG2 hc1 hc2 h1 h2 hbF HG
          go_wp2
          go_roundw
          case measure => simp [intOf]; omega
          case rel => exact ⟨v + 1, cs4, by omega, by go_num, HG2.out, fun x hx => by have := HC2.out x hx; push_cast; omega, fun h => by rw [H2.out h]; push_cast; rfl⟩
        · obtain rfl : n = v := by omega
          have HG := Lib.hid hG
          have HC1 := Lib.hid hc1
          have H3 := Lib.hid h1
          have hBq := hG.below
          have xq := (hBq.cell (p := ⟨w.heap.size, 0, none⟩) lt0).trans x0
          have HLq := Lib.hid (HL.out wq (HB2.out.trans (hBq.mono HB2.out.size)))
          clear hG hc1 h1 hBq
          go_upto_region 21 with fail
          go_wp2_with fail
          refine HLq.out.mono ?_
          rintro e wG ⟨vL, us, L, rfl, hrL, hLn, hLr, hLc, hbG⟩
          obtain ⟨aL, cL, rfl⟩ := ownsRow_slice hrL
          have HG' := Lib.hid (HG.out.le hbG)
          have HLc := Lib.hid hLc
          obtain ⟨lL, hlL⟩ : ∃ l, L.length = l := ⟨_, rfl⟩
          rw [hlL] at hrL hLn
          have HRL := Lib.hid hrL
          have HLr := Lib.hid hLr
          have HlL := Lib.hid hlL
          rw [hlL]
          clear hrL hLr hLc hbG HLq HG hlL
          go_upto_region 22 with fail
          go_loopw [83] (fun ix wr => ∃ (k : Nat) (cs : List Int), k ≤ lL ∧ ix = .int .i64 k ∧ GI W2 T m (.slice (some ⟨gO, 0, none⟩) m m) (.slice (some ⟨gT, 0, none⟩) m m) cs tw wr ∧ (∀ x ∈ cs, x ≤ (F : Int) + n + k) ∧ (m = 1 → cs = [(n : Int), 0, (F : Int), (k : Int), 0, 0]) ∧
            wr.ownsRow wq.heap.size 28 1 (.slice aL lL cL) lL us ∧ (∀ (i : Nat) (u : Value) (r : List Int), us[i]? = some u → L[i]? = some r → wr.ownsRow wq.heap.size 3 1 u r.length (intsV r) ∧ ∃ a r', r = a :: r' ∧ 0 ≤ a ∧ a < n)) (fun ix _ => lL - (intOf ix).toNat)
          case atStart => exact ⟨0, cs3, Nat.zero_le _, rfl, HG'.out, fun x hx => by have := HC1.out x hx; omega, fun h => by rw [H3.out h]; rfl, HRL.out, HLr.out⟩
          case round =>
            clear HG' HC1 H3 HRL HLr xq
            rename World => wr
            obtain ⟨k, cs5, hk, rfl, hG, hc1, h1, hrL, hLr⟩ := hrel
            by_cases hkl : k < lL
            · have k3 : (k : Int) < (lL : Int) := by omega
              obtain ⟨gl, cl, e0, hg1, hg2⟩ := hrL.form (by omega)
              cases e0
              have hul : k < us.length := by have := hrL.1; omega
              have hLl : k < L.length := by rw [HlL.out]; exact hkl
              obtain ⟨hru, a, r', hra, ha0, han⟩ := hLr k us[k] L[k] (List.getElem?_eq_getElem hul) (List.getElem?_eq_getElem hLl)
              have hcu := hrL.cellAt k (by omega)
              rw [List.getElem?_eq_getElem hul] at hcu
              rw [hra] at hru
              obtain ⟨gu, cu, eu, hgu1, hgu2⟩ := hru.form (by simp)
              rw [eu] at hru hcu
              have hca := hru.cellAt 0 (by simp)
              have hca' : wr.cell? ⟨gu, 0, none⟩ = some (.int .i64 a) := hca
              obtain ⟨lr, hlr⟩ : ∃ l, (a :: r').length = l := ⟨_, rfl⟩
              have hlr0 : 0 < lr := by rw [← hlr]; simp
              rw [hlr] at hcu
              have lr3 : (0 : Int) < (lr : Int) := by omega
              have HAv := Lib.hid (HAt.out wr hG.below a ⟨ha0, han⟩)
              have HG := Lib.hid hG
              have HRL := Lib.hid hrL
              have HLr := Lib.hid hLr
              clear hG hrL hLr hru hca hra eu hlr
              go_wp2_with fail
              refine HAv.out.mono ?_
              rintro e wF ⟨q, rfl, hqm, hbF⟩
              have hG := HG.out.le hbF
              obtain ⟨o1, o2, o3, o4, o5⟩ := hG.cellO 3 hqm (by omega)
              have o6 := hc1 _ (at_mem (l := cs5) (j := q * 6 + 3) (by rw [hG.cl]; omega))
              have hG2 := hG.putO (q * 6 + 3) (at_ cs5 (q * 6 + 3) + 1) (by omega)
              have hc2 : ∀ x ∈ cs5.set (q * 6 + 3) (at_ cs5 (q * 6 + 3) + 1), x ≤ (F : Int) + (n : Int) + (k : Int) + 1 := fun x hx => by
                rcases List.mem_or_eq_of_mem_set hx with hx | rfl
                · have := hc1 x hx; omega
                · omega
              have h2 : m = 1 → cs5.set (q * 6 + 3) (at_ cs5 (q * 6 + 3) + 1) = [(n : Int), 0, (F : Int), (k : Int) + 1, 0, 0] := fun h => by
                obtain rfl : q = 0 := by omega
                rw [h1 h]
                rfl
              have q3 : (q : Int) < (m : Int) := by omega
              obtain ⟨st1, st2⟩ := hG.out.stored (q * 6 + 3) (.int .i64 (at_ cs5 (q * 6 + 3) + 1))
              have hrL2 := (own_below HRL.out hbF).kept st2 (own_own_ne (own_below HRL.out hbF) hG.out (by decide))
              have hLr2 : ∀ (i : Nat) (u : Value) (r : List Int), us[i]? = some u → L[i]? = some r → (wF.setCell ⟨gO, q * 6 + 3, none⟩ (.int .i64 (at_ cs5 (q * 6 + 3) + 1))).ownsRow wq.heap.size 3 1 u r.length (intsV r) ∧ ∃ a r', r = a :: r' ∧ 0 ≤ a ∧ a < n := fun i u r hu hr => by
                obtain ⟨b1, b2⟩ := HLr.out i u r hu hr
                exact ⟨(own_below b1 hbF).kept st2 (own_own_ne (own_below b1 hbF) hG.out (by decide)), b2⟩
              have HG2 := Lib.hid hG2
              have HC2 := Lib.hid hc2
              have H2 := Lib.hid h2
              have HRL2 := Lib.hid hrL2
              have HLr2 := Lib.hid hLr2
              generalize cs5.set (q * 6 + 3) (at_ cs5 (q * 6 + 3) + 1) = cs6 at *
              generalize at_ cs5 (q * 6 + 3) = z at *
              clear hG hG2 hc1 hc2 h1 h2 hbF HG st1 st2 hrL2 hLr2 HRL HLr
              go_wp2
              go_roundw
              case measure => simp [intOf]; omega
              case rel => exact ⟨k + 1, cs6, by omega, by go_num, HG2.out, fun x hx => by have := HC2.out x hx; push_cast; omega, fun h => by rw [H2.out h]; push_cast; rfl, HRL2.out, HLr2.out⟩
            · obtain rfl : lL = k := by omega
              have HG := Lib.hid hG
              have HC1 := Lib.hid hc1
              have H3 := Lib.hid h1
              clear hG hc1 h1 hrL hLr
              go_upto_region 27 with fail
              go_loopw [102] (fun ix wr => ∃ (k : Nat) (cs : List Int), k ≤ m ∧ ix = .int .i64 k ∧ Below W2.heap.size W2 wr ∧ wr.ownsRow W2.heap.size 142 6 (.slice (some ⟨gO, 0, none⟩) m m) m (intsV cs) ∧ wr.ownsRow W2.heap.size 3 1 (.slice (some ⟨gT, 0, none⟩) m m) m (intsV tw) ∧
                cs.length = m * 6 ∧ (∀ j, k * 6 ≤ j → at_ cs j = at_ cs5 j) ∧ (k = 0 → cs = cs5) ∧ (m = 1 → k = 1 → cs = [(n : Int), at_ tw 0 / 2, F, (lL : Int), n - at_ tw 0 / 2 + F, (2 - lL - (n - at_ tw 0 / 2 + F)).tdiv 2])) (fun ix _ => m - (intOf ix).toNat)
              case atStart => exact ⟨0, cs5, Nat.zero_le _, rfl, HG.out.below, HG.out.out, HG.out.two, HG.out.cl, fun j _ => rfl, fun _ => rfl, fun _ h => by omega⟩
              case round =>
                rename World => wz
                obtain ⟨k, cs7, hk, rfl, hB, hO, hT2, hcl, hsm, hz, h1⟩ := hrel
                have htl := HG.out.tl
                by_cases hkm : k < m
                · have k3 : (k : Int) < (m : Int) := by omega
                  have cellK : ∀ f, f < 6 → wz.cell? ⟨gO, k * 6 + f, none⟩ = some (.int .i64 (at_ cs5 (k * 6 + f))) := fun f hf => by
                    rw [hO.cellAt _ (by omega), intsV_at (by omega), hsm _ (by omega)]
                  have bdK : ∀ f, f < 6 → 0 ≤ at_ cs5 (k * 6 + f) ∧ at_ cs5 (k * 6 + f) ≤ 30000 := fun f hf => HG.out.cb _ (at_mem (by rw [HG.out.cl]; omega))
                  have tcell : wz.cell? ⟨gT, k, none⟩ = some (.int .i64 (at_ tw k)) := by rw [hT2.cellAt _ (by omega), intsV_at (by omega)]
                  have tbd := HG.out.tb _ (at_mem (l := tw) (j := k) (by omega))
                  have lgO := (hO.lt gO rfl).2
                  have HD := Lib.hid (fun (W : World) (hW : W.heap = wz.heap) => gdone_any gO (k * 6) (at_ cs5 (k * 6)) (at_ cs5 (k * 6 + 2)) (at_ cs5 (k * 6 + 3)) (at_ tw k) (at_ cs5 (k * 6 + 1)) (at_ cs5 (k * 6 + 4)) (at_ cs5 (k * 6 + 5)) W
                    (by unfold World.cell?; rw [hW]; exact cellK 0 (by omega)) (by unfold World.cell?; rw [hW]; exact cellK 1 (by omega)) (by unfold World.cell?; rw [hW]; exact cellK 2 (by omega)) (by unfold World.cell?; rw [hW]; exact cellK 3 (by omega)) (by unfold World.cell?; rw [hW]; exact cellK 4 (by omega)) (by unfold World.cell?; rw [hW]; exact cellK 5 (by omega))
                    (fun j => by unfold World.frozen?; rw [hW]; exact hO.frozenAt j) (by rw [hW]; exact lgO) (by have := bdK 0 (by omega); simp only [Nat.add_zero] at this; omega) (by have := bdK 2 (by omega); omega) (by have := bdK 3 (by omega); omega) (by omega))
                  go_upto_region 29 with fail
                  go_region_with (go_at_call 110; refine (HD.out wz.drew rfl).mono ?_; rintro e wY ⟨⟨vy, rfl⟩, rfl⟩)
                  obtain ⟨s1, s2⟩ := hO.stored (k * 6 + 1) (.int .i64 (at_ tw k / 2))
                  rw [intsV_set] at s1
                  obtain ⟨s3, s4⟩ := s1.stored (k * 6 + 4) (.int .i64 (at_ cs5 (k * 6) - at_ tw k / 2 + at_ cs5 (k * 6 + 2)))
                  rw [intsV_set] at s3
                  obtain ⟨s5, s6⟩ := s3.stored (k * 6 + 5) (.int .i64 ((2 - at_ cs5 (k * 6 + 3) - (at_ cs5 (k * 6) - at_ tw k / 2 + at_ cs5 (k * 6 + 2))).tdiv 2))
                  rw [intsV_set] at s5
                  have gB : ∀ j, some gO = some j → W2.heap.size ≤ j := fun j e => (hO.lt j (by rw [← e]; rfl)).1
                  have u1 := hT2.kept s2 (own_own_ne hT2 hO (by decide))
                  have u2 := u1.kept s4 (own_own_ne u1 s1 (by decide))
                  have u3 := u2.kept s6 (own_own_ne u2 s3 (by decide))
                  have d1 := hB.grown s2 hB.size gB
                  have d2 := d1.grown s4 d1.size gB
                  have d3 := d2.grown s6 d2.size gB
                  have hO3 : World.ownsRow ((((wz.setCell ⟨gO, k * 6 + 1, none⟩ (.int .i64 (at_ tw k / 2))).setCell ⟨gO, k * 6 + 4, none⟩ (.int .i64 (at_ cs5 (k * 6) - at_ tw k / 2 + at_ cs5 (k * 6 + 2)))).setCell ⟨gO, k * 6 + 5, none⟩ (.int .i64 ((2 - at_ cs5 (k * 6 + 3) - (at_ cs5 (k * 6) - at_ tw k / 2 + at_ cs5 (k * 6 + 2))).tdiv 2))).drew.drew.drew) W2.heap.size 142 6 (.slice (some ⟨gO, 0, none⟩) m m) m (intsV (((cs7.set (k * 6 + 1) (at_ tw k / 2)).set (k * 6 + 4) (at_ cs5 (k * 6) - at_ tw k / 2 + at_ cs5 (k * 6 + 2))).set (k * 6 + 5) ((2 - at_ cs5 (k * 6 + 3) - (at_ cs5 (k * 6) - at_ tw k / 2 + at_ cs5 (k * 6 + 2))).tdiv 2))) := s5
                  have hT3 : World.ownsRow ((((wz.setCell ⟨gO, k * 6 + 1, none⟩ (.int .i64 (at_ tw k / 2))).setCell ⟨gO, k * 6 + 4, none⟩ (.int .i64 (at_ cs5 (k * 6) - at_ tw k / 2 + at_ cs5 (k * 6 + 2)))).setCell ⟨gO, k * 6 + 5, none⟩ (.int .i64 ((2 - at_ cs5 (k * 6 + 3) - (at_ cs5 (k * 6) - at_ tw k / 2 + at_ cs5 (k * 6 + 2))).tdiv 2))).drew.drew.drew) W2.heap.size 3 1 (.slice (some ⟨gT, 0, none⟩) m m) m (intsV tw) := u3
                  have hB3 : Below W2.heap.size W2 ((((wz.setCell ⟨gO, k * 6 + 1, none⟩ (.int .i64 (at_ tw k / 2))).setCell ⟨gO, k * 6 + 4, none⟩ (.int .i64 (at_ cs5 (k * 6) - at_ tw k / 2 + at_ cs5 (k * 6 + 2)))).setCell ⟨gO, k * 6 + 5, none⟩ (.int .i64 ((2 - at_ cs5 (k * 6 + 3) - (at_ cs5 (k * 6) - at_ tw k / 2 + at_ cs5 (k * 6 + 2))).tdiv 2))).drew.drew.drew) := d3.drew.drew.drew
                  generalize ((((wz.setCell ⟨gO, k * 6 + 1, none⟩ (.int .i64 (at_ tw k / 2))).setCell ⟨gO, k * 6 + 4, none⟩ (.int .i64 (at_ cs5 (k * 6) - at_ tw k / 2 + at_ cs5 (k * 6 + 2)))).setCell ⟨gO, k * 6 + 5, none⟩ (.int .i64 ((2 - at_ cs5 (k * 6 + 3) - (at_ cs5 (k * 6) - at_ tw k / 2 + at_ cs5 (k * 6 + 2))).tdiv 2))).drew.drew.drew) = wX at *
                  have hcl3 : (((cs7.set (k * 6 + 1) (at_ tw k / 2)).set (k * 6 + 4) (at_ cs5 (k * 6) - at_ tw k / 2 + at_ cs5 (k * 6 + 2))).set (k * 6 + 5) ((2 - at_ cs5 (k * 6 + 3) - (at_ cs5 (k * 6) - at_ tw k / 2 + at_ cs5 (k * 6 + 2))).tdiv 2)).length = m * 6 := by simp [hcl]
                  have hsm3 : ∀ j, (k + 1) * 6 ≤ j → at_ (((cs7.set (k * 6 + 1) (at_ tw k / 2)).set (k * 6 + 4) (at_ cs5 (k * 6) - at_ tw k / 2 + at_ cs5 (k * 6 + 2))).set (k * 6 + 5) ((2 - at_ cs5 (k * 6 + 3) - (at_ cs5 (k * 6) - at_ tw k / 2 + at_ cs5 (k * 6 + 2))).tdiv 2)) j = at_ cs5 j := fun j hj => by
                    rw [← hsm j (by omega)]
                    unfold at_
                    simp only [List.getD_eq_getElem?_getD]
                    rw [List.getElem?_set_ne (by omega), List.getElem?_set_ne (by omega), List.getElem?_set_ne (by omega)]
                  have h5 : m = 1 → k + 1 = 1 → (((cs7.set (k * 6 + 1) (at_ tw k / 2)).set (k * 6 + 4) (at_ cs5 (k * 6) - at_ tw k / 2 + at_ cs5 (k * 6 + 2))).set (k * 6 + 5) ((2 - at_ cs5 (k * 6 + 3) - (at_ cs5 (k * 6) - at_ tw k / 2 + at_ cs5 (k * 6 + 2))).tdiv 2)) = [(n : Int), at_ tw 0 / 2, F, (lL : Int), n - at_ tw 0 / 2 + F, (2 - lL - (n - at_ tw 0 / 2 + F)).tdiv 2] := fun hm1 hk1 => by
                    obtain rfl : k = 0 := by omega
                    rw [hz rfl, H3.out hm1]
                    rfl
                  have HO3 := Lib.hid hO3
                  have HT3 := Lib.hid hT3
                  have HB3 := Lib.hid hB3
                  have HCL3 := Lib.hid hcl3
                  have HSM3 := Lib.hid hsm3
                  have H5 := Lib.hid h5
                  clear hO3 hT3 hB3 hcl3 hsm3 h5 s1 s2 s3 s4 s5 s6 u1 u2 u3 d1 d2 d3 hO hT2 hB hsm hz h1 hcl cellK bdK tcell HD
                  generalize ((cs7.set (k * 6 + 1) (at_ tw k / 2)).set (k * 6 + 4) (at_ cs5 (k * 6) - at_ tw k / 2 + at_ cs5 (k * 6 + 2))).set (k * 6 + 5) ((2 - at_ cs5 (k * 6 + 3) - (at_ cs5 (k * 6) - at_ tw k / 2 + at_ cs5 (k * 6 + 2))).tdiv 2) = cs8 at *
                  go_wp2
                  go_roundw
                  case measure => simp [intOf]; omega
                  case rel => exact ⟨k + 1, cs8, by omega, by go_num, HB3.out, HO3.out, HT3.out, HCL3.out, HSM3.out, fun h => by omega, H5.out⟩
                · obtain rfl : m = k := by omega
                  have HOz := Lib.hid (own_base hO HB2.out.size)
                  have HBz := Lib.hid (HB2.out.trans (hB.mono HB2.out.size))
                  have H6 := Lib.hid h1
                  clear hO hT2 hB hsm hz h1 hcl
                  go_wp2
                  go_ret
                  refine ⟨_, out, m, cs7, rfl, HSh.out, HM.out, HOz.out, fun hm1 => ⟨at_ tw 0 / 2, lL, H6.out hm1 hm1, by omega, ?_, fun hc => ?_⟩, HBz.out⟩
                  · rw [← HLc.out, ← HlL.out]
                    cases L <;> simp
                    omega
                  · rw [(H1.out hm1).2 hc]
                    rfl
end Go.Proofs.YtghlnknncahkgaaGreat
/-
  A range over a function that has memory of its own: the iterator changes its own blocks alone, the rounds the caller's alone.
-/
namespace Go.Proofs.YtghlnknncahkgaaGreat
open Go.RowKit

/-- What speaks of the caller's blocks alone. -/
def Stable {α : Type} (B0 : Nat) (I : α → (Nat → Prop) → World → Prop) : Prop :=
  ∀ xs C A B, I xs C A → Below B0 A B → (∀ k, C k → B.heap[k]? = A.heap[k]?) → I xs C B
/-- A set of blocks is taken over: what is more was laid anew. -/
def Anew (C C' : Nat → Prop) (W W' : World) : Prop := ∀ k, C' k → C k ∨ (W.heap.size ≤ k ∧ k < W'.heap.size)
/-- The iterator's contract. -/
def SeqSep {α : Type} (F : Fence) (n : Nat) (P : Program) (g : Nat) (lb : Array Value) (encs : α → Array Value) (Fin Sp : List α → Prop) (N : Nat) (w0 : World) (R : Nat → Prop) (Pre : World → Prop) : Prop :=
  ∀ (l : Nat) (J Jx : List α → (Nat → Prop) → World → Prop) (W : World) (C : Nat → Prop), Below w0.heap.size w0 W → Pre W → (∀ k, R k → k < W.heap.size) → Stable w0.heap.size J → Stable w0.heap.size Jx →
    (∀ pre x C1 W1, J pre C1 W1 → pre.length < N → YieldAt F (n - 1) P l (encs x) W1 fun e W' =>
      Kept C1 W1 W' ∧ ∃ C', Anew C1 C' W1 W' ∧ ((e = .returned (.bool true) ∧ J (pre ++ [x]) C' W') ∨ (e = .returned (.bool false) ∧ Jx (pre ++ [x]) C' W'))) →
    J [] C W → (∀ k, C k → w0.heap.size ≤ k ∧ k < W.heap.size ∧ ¬ R k) →
    CallsIn F n P g (#[.func (.yield l) #[] #[]] ++ lb) W fun e W' => (∃ v, e = .returned v) ∧ ((∃ xs C', Fin xs ∧ J xs C' W') ∨ (∃ pre C', Sp pre ∧ Jx pre C' W'))
/-- How a round's body may be left. -/
def sepPost {α : Type} (I : List α → (Nat → Prop) → World → Prop) (Ix : Code → List α → (Nat → Prop) → World → Prop) (C : Nat → Prop) (xs : List α) (W : World) : Exit → Act → World → Prop
  | .normal, _, W' => Kept C W W' ∧ ∃ C', Anew C C' W W' ∧ I xs C' W'
  | .ret, _, W' => Kept C W W' ∧ ∃ C', Anew C C' W W' ∧ Ix .ret xs C' W'
  | .exit id, _, W' => Kept C W W' ∧ ∃ C', Anew C C' W W' ∧ Ix (.exit id) xs C' W'
  | .goto t, _, W' => Kept C W W' ∧ ∃ C', Anew C C' W W' ∧ Ix (.goto t) xs C' W'
  | .panic _, _, _ => False
  | .outgrown, _, _ => False

variable {F : Fence} {n : Nat} {P : Program} {w : World}
theorem putObj_below {B l : Nat} {W : World} {o : Obj} (h : B ≤ l) : Below B W (W.putObj l o) := ⟨rfl, rfl, rfl, by simp, fun k hk => World.putObj_heap_other (by omega)⟩
theorem putObj_kept {S : Nat → Prop} {l : Nat} {W : World} {o : Obj} (h : S l) : Kept S W (W.putObj l o) := ⟨rfl, rfl, rfl, by simp, fun k _ hn => World.putObj_heap_other (fun e => hn (by rw [e]; exact h))⟩

set_option maxHeartbeats 1000000 in
theorem wpIn_rangeFunc_sep {α : Type} {g : Operand} {ps : Array Tmp} {assign body : Code} {Q : Exit → Act → World → Prop} {a : Act} {w : World}
    (hro : F.round = none) (h1 : 1 ≤ n) {gf : Nat} {lb : Array Value} (hg : a.eval g = .func (.func gf) #[] lb) (hFg : F.fn gf) (eg : ∀ args w, (callFunc gf args).run P w = .ok (.enter gf args) w)
    {encs : α → Array Value} {Fin Sp : List α → Prop} {N : Nat} {w0 : World} {R : Nat → Prop} {Pre : World → Prop} (hseq : SeqSep F (n - 1) P gf lb encs Fin Sp N w0 R Pre) (hpre : ∀ W, Below w.heap.size w W → Pre W) (hR : ∀ k, R k → k < w.heap.size) (hb0 : Below w0.heap.size w0 w) (hps : ∀ x, (encs x).size = ps.size)
    (I : List α → (Nat → Prop) → World → Prop) (Ix : Code → List α → (Nat → Prop) → World → Prop) (hI : Stable w0.heap.size I) (hIx : ∀ c, Stable w0.heap.size (Ix c)) (C0 : Nat → Prop) (hC0 : ∀ k, C0 k → w0.heap.size ≤ k ∧ k < w.heap.size ∧ ¬ R k) (h0 : I [] C0 w)
    (hround : ∀ (l : Nat) (pre : List α) (x : α) (C : Nat → Prop) (W : World), w.heap.size ≤ l → l < W.heap.size → I pre C W → (∀ k, C k → w0.heap.size ≤ k ∧ k < W.heap.size) → pre.length < N →
      assign.wpIn (F.inRound l) (n - 1 - 1) P (Exit.then (fun a' W1 => Kept C W W1 ∧ I pre C W1 ∧ ∀ W2, Kept (fun k => k = l) W1 W2 → I pre C W2 → (∀ k, C k → w0.heap.size ≤ k ∧ k < W2.heap.size) → W2.heap.size = W1.heap.size → body.wpIn (F.inRound l) (n - 1 - 1) P (sepPost I Ix C (pre ++ [x]) W2) a' W2) (fun _ _ _ => False))
        { tmps := (ps.zip (encs x)).foldl (fun t (p, v) => t.setIfInBounds p v) a.tmps, defers := [] } W)
    (hdone : ∀ (D : Nat) (xs : List α) (C : Nat → Prop) (W : World), w.heap.size ≤ D → ¬ C D → Fin xs → I xs C W → W.heap[D]? = some (.deferred (some [])) → Q .normal { a with defers := { target := .collected D, args := #[] } :: a.defers } W)
    (hstop : ∀ (D : Nat) (c : Code) (pre : List α) (C : Nat → Prop) (W : World), w.heap.size ≤ D → ¬ C D → Sp pre → Ix c pre C W → W.heap[D]? = some (.deferred (some [])) → c.wpIn F n P Q { a with defers := { target := .collected D, args := #[] } :: a.defers } W) :
    (Code.rangeFunc g ps assign body).wpIn F n P Q a w := by
  refine wpIn_rangeFunc ?_
  intro fn hfn
  rw [hro]
  obtain ⟨rec, hrec⟩ : ∃ rec : LoopState → Option Code → Loop, rec = fun st pe => { state := st, pending := pe, fn, tmps := a.tmps, params := ps, assign, body, defers := w.heap.size } := ⟨_, rfl⟩
  obtain ⟨W1, hW1⟩ : ∃ W1, (w.alloc (.deferred (some []))).alloc (.loop (rec .ready none)) = W1 := ⟨_, rfl⟩
  have hL1 : W1.heap[w.heap.size + 1]? = some (.loop (rec .ready none)) := by
    rw [← hW1]; have := World.alloc_heap_new (w.alloc (.deferred (some []))) (.loop (rec .ready none)); rwa [World.size_alloc] at this
  have hK1 : W1.heap[w.heap.size]? = some (.deferred (some [])) := by
    rw [← hW1]; exact (Below.heap_alloc _ _ _ (by simp)).trans (World.alloc_heap_new w _)
  have hz1 : W1.heap.size = w.heap.size + 2 := by rw [← hW1]; simp
  have hbw : Below w.heap.size w W1 := by rw [← hW1]; exact ((Below.refl _ w).alloc (Nat.le_refl _) _).alloc (by simp) _
  have hz0 := hb0.size
  have hI1 : I [] C0 W1 := hI _ _ _ _ h0 (hbw.mono hz0) (fun k hk => hbw.block k (hC0 k hk).2.1)
  have hb1 : Below w0.heap.size w0 W1 := hb0.trans (hbw.mono hz0)
  -- the law's own set
  let J : (List α → (Nat → Prop) → World → Prop) → (World → Prop) → List α → (Nat → Prop) → World → Prop := fun I R pre C W => ∃ Cu, (∀ k, C k ↔ Cu k ∨ k = w.heap.size ∨ k = w.heap.size + 1) ∧ I pre Cu W ∧ (∀ k, Cu k → w0.heap.size ≤ k ∧ k < W.heap.size ∧ k ≠ w.heap.size ∧ k ≠ w.heap.size + 1) ∧ R W ∧ W.heap[w.heap.size]? = some (.deferred (some []))
  have hJ : ∀ (I : List α → (Nat → Prop) → World → Prop) (R : World → Prop), Stable w0.heap.size I → (∀ A B : World, R A → B.heap[w.heap.size + 1]? = A.heap[w.heap.size + 1]? → R B) → Stable w0.heap.size (J I R) := by
    rintro I R hI hR xs C A B ⟨Cu, hC, hi, hbd, hl, hd⟩ hbel hsame
    exact ⟨Cu, hC, hI _ _ _ _ hi hbel (fun k hk => hsame k ((hC k).2 (.inl hk))), fun k hk => by have := hbd k hk; have := hbel.size; omega, hR _ _ hl (hsame _ ((hC _).2 (.inr (.inr rfl)))), (hsame _ ((hC _).2 (.inr (.inl rfl)))).trans hd⟩
  refine ⟨w.heap.size + 1, [{ target := .collected w.heap.size, args := #[] }], W1, { target := .fn (.func gf) lb, args := #[.func (.yield (w.heap.size + 1)) #[] #[]] }, W1, gf,
    #[.func (.yield (w.heap.size + 1)) #[] #[]] ++ lb, W1, ?_, ?_, ?_, ?_, fun _ => h1, ?_⟩
  · rw [← hW1, hrec]; exact run_enterLoop_outer _ _ _ _ _
  · simp only [resolve, hg]
    simp [go_sem]
  · intro f' hf'; simp [Target.leads] at hf'; subst hf'; exact hFg
  · simp [invoke, go_sem, eg]
  · refine (hseq (w.heap.size + 1) (J I (fun W => W.heap[w.heap.size + 1]? = some (.loop (rec .ready none)))) (J (fun xs C W => ∃ c, Ix c xs C W ∧ W.heap[w.heap.size + 1]? = some (.loop (rec .done (some c)))) (fun _ => True)) W1
      (fun k => C0 k ∨ k = w.heap.size ∨ k = w.heap.size + 1) hb1 (hpre W1 hbw) (fun k hk => by have := hR k hk; omega) (hJ _ _ hI (fun A B h e => e.trans h)) ?_ ?_ ⟨C0, fun k => Iff.rfl, hI1, fun k hk => by have := hC0 k hk; omega, hL1, hK1⟩ (fun k hk => by
        have hR' := hR k
        rcases hk with hk | hk | hk
        · have := hC0 k hk; exact ⟨this.1, by omega, this.2.2⟩
        · exact ⟨by omega, by omega, fun h => by have := hR' h; omega⟩
        · exact ⟨by omega, by omega, fun h => by have := hR' h; omega⟩)).mono ?_
    · rintro xs C A B ⟨Cu, hC, ⟨c, hc, hl⟩, hbd, -, hd⟩ hbel hsame
      exact ⟨Cu, hC, ⟨c, hIx c _ _ _ _ hc hbel (fun k hk => hsame k ((hC k).2 (.inl hk))), (hsame _ ((hC _).2 (.inr (.inr rfl)))).trans hl⟩, fun k hk => by have := hbd k hk; have := hbel.size; omega, trivial, (hsame _ ((hC _).2 (.inr (.inl rfl)))).trans hd⟩
    · -- one round
      rintro pre x C W ⟨Cu, hC, hi, hbd, hl, hk⟩ hlen
      have hlt : w.heap.size + 1 < W.heap.size := (Array.getElem?_eq_some_iff.1 hl).1
      have hy := run_yield (P := P) (args := encs x) hl (by rw [hrec]; exact hps x)
      rw [hrec] at hy
      refine ⟨fn, _, assign, body, hy, roundIn_of_wpIn hfn (wpIn_mono (hround (w.heap.size + 1) pre x Cu W (by omega) hlt hi (fun k hk => ⟨(hbd k hk).1, (hbd k hk).2.1⟩) hlen) ?_)⟩
      clear hy
      intro e a' Wa hp
      cases e with
      | normal =>
        obtain ⟨hka, hia, hb⟩ := hp
        have hla := (hka.block _ hlt (fun h => (hbd _ h).2.2.2 rfl)).trans hl
        have hda := (hka.block _ (by omega) (fun h => (hbd _ h).2.2.1 rfl)).trans hk
        have hza := hka.size
        refine ⟨_, run_beginRound hla (by rw [hrec]), ?_⟩
        obtain ⟨W2, hW2⟩ : ∃ W2, Wa.putObj (w.heap.size + 1) (.loop { rec .ready none with state := .busy }) = W2 := ⟨_, rfl⟩
        have hl2 : W2.heap[w.heap.size + 1]? = some (.loop { rec .ready none with state := .busy }) := by rw [← hW2]; exact World.putObj_heap_same (by omega)
        have hd2 : W2.heap[w.heap.size]? = some (.deferred (some [])) := by rw [← hW2]; exact (World.putObj_heap_other (by omega)).trans hda
        have hz2 : W2.heap.size = Wa.heap.size := by rw [← hW2]; simp
        have hk2 : Kept (fun k => k = w.heap.size + 1) Wa W2 := by rw [← hW2]; exact putObj_kept rfl
        have hi2 : I pre Cu W2 := by
          refine hI _ _ _ _ hia ?_ (fun k hk => ?_)
          · rw [← hW2]; exact putObj_below (by omega)
          · rw [← hW2]; exact World.putObj_heap_other (hbd k hk).2.2.2
        rw [hW2]
        refine wpIn_mono (hb W2 hk2 hi2 (fun k hk => by have := hbd k hk; omega) hz2) ?_
        have fin : ∀ (jump : Option Code) (W3 : World) (C' : Nat → Prop), Kept Cu W2 W3 → Anew Cu C' W2 W3 →
            (Instr.endRound (w.heap.size + 1) jump).run P W3 = .ok (.bool jump.isNone) (W3.putObj (w.heap.size + 1) (.loop (rec (if jump.isNone then .ready else .done) jump))) ∧
            (W3.putObj (w.heap.size + 1) (.loop (rec (if jump.isNone then .ready else .done) jump))).heap[w.heap.size + 1]? = some (.loop (rec (if jump.isNone then .ready else .done) jump)) ∧
            (W3.putObj (w.heap.size + 1) (.loop (rec (if jump.isNone then .ready else .done) jump))).heap[w.heap.size]? = some (.deferred (some [])) ∧
            Kept C W (W3.putObj (w.heap.size + 1) (.loop (rec (if jump.isNone then .ready else .done) jump))) ∧
            Anew C (fun k => C' k ∨ k = w.heap.size ∨ k = w.heap.size + 1) W (W3.putObj (w.heap.size + 1) (.loop (rec (if jump.isNone then .ready else .done) jump))) ∧
            (∀ k, C' k → w0.heap.size ≤ k ∧ k < (W3.putObj (w.heap.size + 1) (.loop (rec (if jump.isNone then .ready else .done) jump))).heap.size ∧ k ≠ w.heap.size ∧ k ≠ w.heap.size + 1) := fun jump W3 C' hk3 hn3 => by
          have hl3 := (hk3.block _ (by omega) (fun h => (hbd _ h).2.2.2 rfl)).trans hl2
          have hd3 := (hk3.block _ (by omega) (fun h => (hbd _ h).2.2.1 rfl)).trans hd2
          have hz3 := hk3.size
          have := run_endRound (P := P) jump hl3
          rw [hrec] at this ⊢
          refine ⟨this, World.putObj_heap_same (by omega), (World.putObj_heap_other (by omega)).trans hd3, ?_, ?_, ?_⟩
          · have c1 : Kept C W Wa := hka.mono (fun k hk => (hC k).2 (.inl hk))
            have c2 : Kept C Wa W2 := hk2.mono (fun k hk => (hC k).2 (.inr (.inr hk)))
            have c3 : Kept C W2 W3 := hk3.mono (fun k hk => (hC k).2 (.inl hk))
            exact ((c1.trans c2).trans c3).trans (putObj_kept ((hC _).2 (.inr (.inr rfl))))
          · intro k hk
            rw [World.putObj_size]
            rcases hk with hk | hk | hk
            · rcases hn3 k hk with h | h
              · exact .inl ((hC k).2 (.inl h))
              · exact .inr (by omega)
            · exact .inl ((hC k).2 (.inr (.inl hk)))
            · exact .inl ((hC k).2 (.inr (.inr hk)))
          · intro k hk
            rw [World.putObj_size]
            rcases hn3 k hk with h | h
            · have := hbd k h
              omega
            · omega
        have put : ∀ {J : List α → (Nat → Prop) → World → Prop} (xs : List α) (C' : Nat → Prop) (W3 : World) (o : Obj), Stable w0.heap.size J → J xs C' W3 → (∀ k, C' k → k ≠ w.heap.size + 1) → J xs C' (W3.putObj (w.heap.size + 1) o) := fun xs C' W3 o hJ h hk => hJ _ _ _ _ h (putObj_below (by omega)) (fun k h' => World.putObj_heap_other (hk k h'))
        rintro e a3 W3 hp
        cases e with
        | normal =>
          obtain ⟨hk3, C', hn3, hi3⟩ := hp
          obtain ⟨hr, hl4, hd4, c4, n4, b4⟩ := fin none W3 C' hk3 hn3
          exact ⟨_, _, hr, c4, _, n4, .inl ⟨rfl, C', fun k => Iff.rfl, put _ _ _ _ hI hi3 (fun k h => (b4 k h).2.2.2), b4, hl4, hd4⟩⟩
        | ret =>
          obtain ⟨hk3, C', hn3, hi3⟩ := hp
          obtain ⟨hr, hl4, hd4, c4, n4, b4⟩ := fin (some .ret) W3 C' hk3 hn3
          exact ⟨_, _, hr, c4, _, n4, .inr ⟨rfl, C', fun k => Iff.rfl, ⟨.ret, put _ _ _ _ (hIx _) hi3 (fun k h => (b4 k h).2.2.2), hl4⟩, b4, trivial, hd4⟩⟩
        | exit id =>
          obtain ⟨hk3, C', hn3, hi3⟩ := hp
          obtain ⟨hr, hl4, hd4, c4, n4, b4⟩ := fin (some (.exit id)) W3 C' hk3 hn3
          exact ⟨_, _, hr, c4, _, n4, .inr ⟨rfl, C', fun k => Iff.rfl, ⟨.exit id, put _ _ _ _ (hIx _) hi3 (fun k h => (b4 k h).2.2.2), hl4⟩, b4, trivial, hd4⟩⟩
        | goto t =>
          obtain ⟨hk3, C', hn3, hi3⟩ := hp
          obtain ⟨hr, hl4, hd4, c4, n4, b4⟩ := fin (some (.goto t)) W3 C' hk3 hn3
          exact ⟨_, _, hr, c4, _, n4, .inr ⟨rfl, C', fun k => Iff.rfl, ⟨.goto t, put _ _ _ _ (hIx _) hi3 (fun k h => (b4 k h).2.2.2), hl4⟩, b4, trivial, hd4⟩⟩
        | panic ch => exact hp.elim
        | outgrown => exact hp.elim
      | ret => exact hp.elim
      | exit id => exact hp.elim
      | goto t => exact hp.elim
      | panic ch => exact hp.elim
      | outgrown => exact hp.elim
    · -- behind the iterator
      rintro e W2 ⟨⟨v, rfl⟩, (⟨xs, C', hS, Cu, hC, hi, hbd, hl, hd⟩ | ⟨pre, C', hSp, Cu, hC, ⟨c, hi, hl⟩, hbd, -, hd⟩)⟩
      · exact ⟨none, _, by have := run_endLoop (P := P) hl (by rw [hrec]; simp); rw [hrec] at this; exact this, hdone _ xs Cu _ (Nat.le_refl _) (fun h => (hbd _ h).2.2.1 rfl) hS (hI _ _ _ _ hi (putObj_below (by omega)) (fun k hk => World.putObj_heap_other (hbd k hk).2.2.2)) ((World.putObj_heap_other (by omega)).trans hd)⟩
      · exact ⟨some c, _, by have := run_endLoop (P := P) hl (by rw [hrec]; simp); rw [hrec] at this; exact this, hstop _ c pre Cu _ (Nat.le_refl _) (fun h => (hbd _ h).2.2.1 rfl) hSp (hIx c _ _ _ _ hi (putObj_below (by omega)) (fun k hk => World.putObj_heap_other (hbd k hk).2.2.2)) ((World.putObj_heap_other (by omega)).trans hd)⟩
end Go.Proofs.YtghlnknncahkgaaGreat
/-
  border: a closed surface has no border edges, and no loops.
-/
namespace Go.Proofs.YtghlnknncahkgaaGreat
open Go.RowKit Go.Maps Go.Shelf
attribute [local go_sem] Oper.semAt_some

set_option maxHeartbeats 1000000 in
theorem edgesC_any (g : Nat) (N : Int) (T : List Tr) (w : World) (h : Tab w g N T) (hc : ClosedT T) : Calls Tryz.prog 163 #[.pointer (some ⟨g, 0, none⟩)] w fun e w' => e = .returned (.slice none 0 0) ∧ Below w.heap.size w w' := by
  have H0 := Lib.hid (triangles_any g N T w h.toTabS)
  have HO := Lib.hid (fun (W : World) (c : Int) (hW : Below w.heap.size w W) => opp_any g N c T W (h.below hW))
  have HP := Lib.hid (fun c (hk : c < 3 * T.length) => hc c hk)
  have hl := h.len
  obtain ⟨F, hF⟩ : ∃ F, T.length = F := ⟨_, rfl⟩
  rw [hF] at hl H0 HP
  clear hF h hc
  go_enter Tryz.func163, Tryz.ntmps163
  go_wp2_with fail
  refine H0.out.mono ?_
  rintro e w0 ⟨rfl, rfl⟩
  go_wp2
  go_loopw [3, 10] (fun v3 ix wr => ∃ k : Nat, k ≤ 3 * F ∧ v3 = .slice none 0 0 ∧ ix = .int .i64 k ∧ Below w.heap.size w wr) (fun _ ix _ => 3 * F - (intOf ix).toNat)
  case atStart => exact ⟨0, Nat.zero_le _, rfl, rfl, Below.refl _ _⟩
  case round =>
    obtain ⟨k, hk, rfl, rfl, hB⟩ := hrel
    rename World => wr
    by_cases hlt : k < 3 * F
    · have k3 : (k : Int) < 3 * (F : Int) := by omega
      have hp := HP.out k hlt
      have HB := Lib.hid hB
      clear hB
      go_wp2_with fail
      refine (HO.out wr k HB.out).mono ?_
      rintro e w2 ⟨rfl, hb2⟩
      have hB2 := HB.out.trans (hb2.mono HB.out.size)
      have HB2 := Lib.hid hB2
      clear hb2 hB2
      go_wp2
      go_roundw
      case measure => simp [intOf]; omega
      case rel => exact ⟨k + 1, by omega, rfl, by go_num, HB2.out⟩
    · obtain rfl : k = 3 * F := by omega
      go_wp2
      go_ret
      exact ⟨rfl, hB⟩

set_option maxHeartbeats 1000000 in
theorem behindC_any (g : Nat) (N : Int) (T : List Tr) (w : World) (h : Tab w g N T) (hc : ClosedT T) : Calls Tryz.prog 146 #[.pointer (some ⟨g, 0, none⟩)] w fun e w' => ∃ b, e = .returned (.map (some b)) ∧ w.heap.size ≤ b ∧ MapP Tryz.prog 3 w' b (fun _ => none) ∧ Below w.heap.size w w' := by
  have hB : Below w.heap.size w (w.alloc (.map #[] 0)) := (Below.refl _ _).alloc (Nat.le_refl _) _
  have HB := Lib.hid hB
  have HM := Lib.hid (MapP.made w Tryz.prog 3)
  have HE := Lib.hid (edgesC_any g N T _ (h.below hB) hc)
  clear hB h hc
  have hmm := @run_makeMap Tryz.prog
  go_enter Tryz.func146, Tryz.ntmps146
  go_wp2_with fail
  refine HE.out.mono ?_
  rintro e w1 ⟨rfl, hb1⟩
  go_wp2
  go_loopw [10] (fun ix wr => ix = .int .i64 0 ∧ wr = w1) (fun _ _ => 0)
  case atStart => exact ⟨rfl, rfl⟩
  case round =>
    obtain ⟨rfl, rfl⟩ := hrel
    go_wp2
    go_ret
    exact ⟨_, rfl, Nat.le_refl _, HM.out.below hb1 (by simp), HB.out.trans (hb1.mono HB.out.size)⟩

set_option maxHeartbeats 1000000 in
/-- border.Walk: the function value holds the table and the vertex in boxes. -/
theorem bwalk_any (F : Fence) (n : Nat) (h6 : F.fn 128) (hro : F.round = none) (g : Nat) (v : Int) (w : World) :
    CallsIn F n Tryz.prog 128 #[.pointer (some ⟨g, 0, none⟩), .int .i64 v] w fun e w' => e = .returned (.func (.func 145) #[] #[.pointer (some ⟨w.heap.size, 0, none⟩), .pointer (some ⟨w.heap.size + 1, 0, none⟩)]) ∧ w' = (w.alloc (.cells #[.pointer (some ⟨g, 0, none⟩)] 26)).alloc (.cells #[.int .i64 v] 3) := by
  refine callsIn_of_wp Tryz.func128 rfl h6 ?_ hro
  simp only [Tryz.ntmps128, List.size_toArray, List.length_cons, List.length_nil, Nat.reduceAdd, Nat.reduceSub, Array.replicate_succ, Array.replicate_zero, List.push_toArray, List.append_toArray, List.nil_append, List.cons_append]
  gi_wp2
  go_ret
  exact ⟨rfl, rfl⟩

set_option maxRecDepth 100000 in
set_option maxHeartbeats 1000000 in
/-- On a closed surface it yields nothing. -/
theorem bwalk1C_in (n : Nat) (l Bt Bv g : Nat) (N : Int) (T : List Tr) (v : Nat) (hv : v ≤ 5000) (hc : ClosedT T) (W : World) (hT : Tab W g N T) (ht : W.cell? ⟨Bt, 0, none⟩ = some (.pointer (some ⟨g, 0, none⟩))) (hvc : W.cell? ⟨Bv, 0, none⟩ = some (.int .i64 v)) (lt : Bt < W.heap.size) (lv : Bv < W.heap.size) :
    CallsIn Fence.wide n Tryz.prog 145 #[.func (.yield l) #[] #[], .pointer (some ⟨Bt, 0, none⟩), .pointer (some ⟨Bv, 0, none⟩)] W fun e W' => (∃ v, e = .returned v) ∧ Below W.heap.size W W' := by
  refine callsIn_of_wp Tryz.func145 rfl trivial ?_ rfl
  have HE := Lib.hid (behindC_any g N T W hT hc)
  clear hT hc
  simp only [Tryz.ntmps145, List.size_toArray, List.length_cons, List.length_nil, Nat.reduceAdd, Nat.reduceSub, Array.replicate_succ, Array.replicate_zero, List.push_toArray, List.append_toArray, List.nil_append, List.cons_append]
  gi_wp2_with fail
  refine ⟨trivial, fun h => (by simp [Fence.wide] at h), (callsIn_wide.2 HE.out).mono ?_⟩
  rintro e w1 ⟨b, rfl, hb, hm, hB⟩
  have hkeyv := keyOf_int_mk (P := Tryz.prog) (k := 3) (q := .i64) Tryz.underlying3 (wfV (x := (v : Int)) ⟨by omega, by omega⟩)
  have hlk := hm.lookOk (t := 78) (int_keyed Tryz.underlying3) Tryz.underlying78 (zero_int _) hkeyv
  have t1 := (hB.cell (p := ⟨Bt, 0, none⟩) lt).trans ht
  have v1 := (hB.cell (p := ⟨Bv, 0, none⟩) lv).trans hvc
  have HB := Lib.hid hB
  clear hB hm
  gi_wp2
  refine ⟨fun f h => (by cases h), ?_⟩
  gi_wp2
  refine bodyPost_ret (results_none rfl _ _ _) rfl ?_
  exact ⟨⟨_, rfl⟩, HB.out⟩
theorem bwalk_sep0 {w : World} {n Bt Bv g : Nat} {N : Int} {T : List Tr} {v : Nat} (hv : v ≤ 5000) (hc : ClosedT T) (hT : Tab w g N T) (ht : w.cell? ⟨Bt, 0, none⟩ = some (.pointer (some ⟨g, 0, none⟩))) (hvc : w.cell? ⟨Bv, 0, none⟩ = some (.int .i64 v)) (lt : Bt < w.heap.size) (lv : Bv < w.heap.size) :
    SeqSep Fence.wide n Tryz.prog 145 #[.pointer (some ⟨Bt, 0, none⟩), .pointer (some ⟨Bv, 0, none⟩)] (fun x : Int => #[.int .i64 x]) (fun _ => True) (fun _ => True) 0 w (fun _ => False) (fun _ => True) := by
  intro l J Jx W C hW _ _ hJ _ _ h0 hC
  have hz := hW.size
  refine (bwalk1C_in n l Bt Bv g N T v hv hc W (hT.below hW) ((hW.cell (p := ⟨Bt, 0, none⟩) lt).trans ht) ((hW.cell (p := ⟨Bv, 0, none⟩) lv).trans hvc) (by omega) (by omega)).mono ?_
  rintro e W' ⟨h1, h2⟩
  exact ⟨h1, .inl ⟨[], C, trivial, hJ _ _ _ _ h0 (h2.mono hz) (fun k hk => h2.block k (hC k hk).2.1)⟩⟩
theorem put_calm2 {W : World} {D : Nat} (o : Obj) : W.grownBy (W.putObj D o) (some D) := grownBy_putObj' W D o

set_option maxRecDepth 100000 in
set_option maxHeartbeats 1000000 in
theorem appendSeq0 (w : World) (gf : Nat) (lb : Array Value) (eg : ∀ args w, (callFunc gf args).run Tryz.prog w = .ok (.enter gf args) w) (hseq : SeqSep Fence.wide 8 Tryz.prog gf lb (fun x : Int => #[.int .i64 x]) (fun _ => True) (fun _ => True) 0 w (fun _ => False) (fun _ => True)) :
    Calls Tryz.prog 144 #[.slice none 0 0, .func (.func gf) #[] lb] w fun e w' => e = .returned (.slice none 0 0) ∧ Below w.heap.size w w' := by
  refine (callsIn_wide (n := 9)).1 ?_
  refine callsIn_of_wp_marks Tryz.func144 rfl trivial ?_ rfl
  simp only [Tryz.ntmps144, List.size_toArray, List.length_cons, List.length_nil, Nat.reduceAdd, Nat.reduceSub, Array.replicate_succ, Array.replicate_zero, List.push_toArray, List.append_toArray, List.nil_append, List.cons_append]
  gi_wp2
  have hB : Below w.heap.size w (w.alloc (.cells #[.slice none 0 0] 28)) := (Below.refl _ _).alloc (Nat.le_refl _) _
  have bx := Blk.new w 28 #[.slice none 0 0]
  refine wpIn_rangeFunc_sep rfl (by omega) (gf := gf) (lb := lb) rfl trivial eg hseq (fun _ _ => trivial) (fun _ h => h.elim) hB (fun _ => rfl)
    (fun _ C W => C w.heap.size ∧ Blk W w.heap.size 28 #[.slice none 0 0] ∧ Below w.heap.size w W) (fun _ _ _ _ => False) ?_ ?_ (fun k => k = w.heap.size) (fun k hk => by subst hk; simp) ⟨rfl, bx, hB⟩ ?_ ?_ ?_
  · rintro xs C A B ⟨h1, h2, h3⟩ hb hs
    exact ⟨h1, blk_same h2 (hs _ h1), h3.trans hb⟩
  · rintro c xs C A B h
    exact h.elim
  · intro l pre x C W _ _ _ _ hl
    exact absurd hl (by omega)
  · rintro D xs C W hD hCD _ ⟨h1, h2, h3⟩ hK
    obtain ⟨q0, q1, q2⟩ := h2.one
    have hDw : D ≠ w.heap.size := fun e => hCD (by rw [e]; exact h1)
    gi_wp2
    refine ⟨by simp, .inl ⟨_, _, rfl, run_takeDeferred hK, ?_⟩⟩
    have g1 := put_calm2 (W := W) (D := D) (.deferred none)
    refine ⟨_, ?_, rfl, h3.grown g1 h3.size (fun k e => by cases e; simp at hD; omega)⟩
    simp [results, Tryz.results144, go_sem]
  · intro D c pre C W _ _ _ h _
    exact h.elim
set_option maxHeartbeats 1000000 in
theorem collect0 (w : World) (gf : Nat) (lb : Array Value) (eg : ∀ args w, (callFunc gf args).run Tryz.prog w = .ok (.enter gf args) w) (hseq : SeqSep Fence.wide 8 Tryz.prog gf lb (fun x : Int => #[.int .i64 x]) (fun _ => True) (fun _ => True) 0 w (fun _ => False) (fun _ => True)) :
    Calls Tryz.prog 127 #[.func (.func gf) #[] lb] w fun e w' => e = .returned (.slice none 0 0) ∧ Below w.heap.size w w' := by
  have H := Lib.hid (appendSeq0 w gf lb eg hseq)
  clear hseq
  go_enter Tryz.func127, Tryz.ntmps127
  go_wp2_with fail
  refine H.out.mono ?_
  rintro e w1 ⟨rfl, hb⟩
  go_wp2
  go_ret
  exact ⟨rfl, hb⟩

/-- The marks that loops over functions have left. -/
def Mks (base : Nat) (W : World) (ds : List Deferred) : Prop := (∀ d ∈ ds, ∃ r, d.target = .collected r ∧ base ≤ r ∧ W.heap[r]? = some (.deferred (some []))) ∧ ds.Pairwise (fun a b => a.target ≠ b.target)
theorem Mks.nil (base : Nat) (W : World) : Mks base W [] := ⟨fun _ h => (List.not_mem_nil h).elim, .nil⟩
theorem Mks.below {base : Nat} {W W' : World} {ds : List Deferred} (h : Mks base W ds) (hb : Below W.heap.size W W') : Mks base W' ds :=
  ⟨fun d hd => by
    obtain ⟨r, h1, h2, h3⟩ := h.1 d hd
    exact ⟨r, h1, h2, (hb.block r (Array.getElem?_eq_some_iff.1 h3).1).trans h3⟩, h.2⟩
theorem Mks.cons {base D : Nat} {W : World} {ds : List Deferred} {args : Array Value} (h : Mks base W ds) (hK : W.heap[D]? = some (.deferred (some []))) (hD : base ≤ D) (hn : ∀ d ∈ ds, d.target ≠ .collected D) : Mks base W ({ target := .collected D, args := args } :: ds) :=
  ⟨fun d hd => by
    rcases List.mem_cons.1 hd with rfl | hd
    · exact ⟨D, rfl, hD, hK⟩
    · exact h.1 d hd, List.pairwise_cons.2 ⟨fun d hd e => hn d hd e.symm, h.2⟩⟩
theorem leaves_marks {F : Fence} {n : Nat} {P : Program} {fn : Func} {tmps : Array Value} {R : Ending → World → Prop} {base : Nat} : ∀ (ds : List Deferred) (W : World), Mks base W ds →
    (∀ W', Kept (fun k => base ≤ k ∧ ∃ d ∈ ds, d.target = .collected k) W W' → LeavesInM F n P fn tmps R [] .returning W') → LeavesInM F n P fn tmps R ds .returning W
  | [], W, _, h => h W (Kept.refl _ _)
  | d :: ds, W, hM, h => by
    obtain ⟨r, h1, h2, h3⟩ := hM.1 d (List.mem_cons_self ..)
    have hp := List.pairwise_cons.1 hM.2
    refine ⟨by simp, .inl ⟨r, _, h1, run_takeDeferred h3, leaves_marks (base := base) ds _ ⟨fun d' hd' => ?_, hp.2⟩ fun W' hk => h W' ?_⟩⟩
    · obtain ⟨r', k1, k2, k3⟩ := hM.1 d' (List.mem_cons_of_mem _ hd')
      refine ⟨r', k1, k2, (World.putObj_heap_other (fun e => ?_)).trans k3⟩
      exact hp.1 d' hd' (by rw [h1, k1, e])
    · refine Kept.trans (b := W.putObj r (.deferred none)) ?_ (hk.mono (fun k ⟨a, d', b, c⟩ => ⟨a, d', List.mem_cons_of_mem _ b, c⟩))
      exact putObj_kept ⟨h2, d, List.mem_cons_self .., h1⟩

set_option maxRecDepth 100000 in
set_option maxHeartbeats 2000000 in
theorem loopsC_any (g n : Nat) (T : List Tr) (w : World) (h : Tab w g n T) (hc : ClosedT T) (hn : n ≤ 4096) :
    Calls Tryz.prog 109 #[.pointer (some ⟨g, 0, none⟩)] w fun e w' => e = .returned (.slice none 0 0) ∧ Below w.heap.size w w' := by
  have H0 := Lib.hid (fun (W : World) (hW : Below w.heap.size w W) => vertices_any g n T W (h.below hW).toTabS)
  have HT := Lib.hid (fun (W : World) (hW : Below w.heap.size w W) => h.below hW)
  have HC := Lib.hid hc
  clear h hc
  have hmm := @run_makeMap Tryz.prog
  refine (callsIn_wide (n := 9)).1 ?_
  refine callsIn_of_wp_marks Tryz.func109 rfl trivial ?_ rfl
  simp only [Tryz.ntmps109, List.size_toArray, List.length_cons, List.length_nil, Nat.reduceAdd, Nat.reduceSub, Array.replicate_succ, Array.replicate_zero, List.push_toArray, List.append_toArray, List.nil_append, List.cons_append]
  have hB0 : Below w.heap.size w ((w.alloc (.map #[] 0)).alloc (.cells #[.map (some w.heap.size)] 59)) := ((Below.refl _ _).alloc (Nat.le_refl _) _).alloc (by simp) _
  have hm0 : MapP Tryz.prog 3 ((w.alloc (.map #[] 0)).alloc (.cells #[.map (some w.heap.size)] 59)) w.heap.size (fun _ => none) := (MapP.made w Tryz.prog 3).alloc _
  have b0 : Blk ((w.alloc (.map #[] 0)).alloc (.cells #[.map (some w.heap.size)] 59)) (w.heap.size + 1) 59 #[.map (some w.heap.size)] := by
    have := Blk.new (w.alloc (.map #[] 0)) 59 #[.map (some w.heap.size)]
    rwa [World.size_alloc] at this
  have HB0 := Lib.hid hB0
  have HM0 := Lib.hid hm0
  have HBb0 := Lib.hid b0
  clear hB0 hm0 b0
  gi_wp2_with fail
  refine ⟨trivial, (callsIn_wide.2 (H0.out _ HB0.out)).mono ?_⟩
  rintro e w1 ⟨rfl, rfl⟩
  gi_wp2
  refine wpIn_loop (fun a' W => ∃ (k : Nat) (u5 u6 u7 u14 u15 u16 u17 u18 u19 u20 u21 u22 u23 u24 u25 u29 u30 u31 u36 : Value) (ds : List Deferred), a' = { tmps := List.toArray (.pointer (some ⟨g, 0, none⟩) :: undef :: .slice none 0 0 :: .slice none 0 0 :: .pointer (some ⟨w.heap.size + 1, 0, none⟩) :: u5 :: u6 :: u7 :: .pointer (some ⟨g, 0, none⟩) :: .bool false :: .map (some w.heap.size) :: .pointer (some ⟨g, 0, none⟩) :: .int .i64 (n : Int) :: .int .i64 (k : Int) :: u14 :: u15 :: u16 :: u17 :: u18 :: u19 :: u20 :: u21 :: u22 :: u23 :: u24 :: u25 :: undef :: undef :: undef :: u29 :: u30 :: u31 :: undef :: undef :: undef :: undef :: u36 :: undef :: []), defers := ds } ∧
    k ≤ n ∧ Mks w.heap.size W ds ∧ Blk W (w.heap.size + 1) 59 #[.map (some w.heap.size)] ∧ MapP Tryz.prog 3 W w.heap.size (fun _ => none) ∧ Below w.heap.size w W)
    (fun a' _ => n - (intOf (a'.tmps.getD 13 undef)).toNat) ?_ ?_
  · exact ⟨0, _, _, _, _, _, _, _, _, _, _, _, _, _, _, _, _, _, _, _, _, rfl, Nat.zero_le _, Mks.nil _ _, HBb0.out, HM0.out, HB0.out⟩
  · rintro a' W ⟨k, u5, u6, u7, u14, u15, u16, u17, u18, u19, u20, u21, u22, u23, u24, u25, u29, u30, u31, u36, ds, rfl, hk, hM, hb, hmp, hB⟩
    clear HB0 HM0 HBb0
    obtain ⟨q0, q1, q2⟩ := hb.one
    have hsz := hB.size
    by_cases hlt : k < n
    · have k3 : (k : Int) < (n : Int) := by omega
      have hkeyv := keyOf_int_mk (P := Tryz.prog) (k := 3) (q := .i64) Tryz.underlying3 (wfV (x := (k : Int)) ⟨by omega, by omega⟩)
      have hlk := hmp.look (t := 59) (int_keyed Tryz.underlying3) Tryz.underlying59 (zero_bool _) hkeyv
      simp only [Option.getD_none] at hlk
      have HM := Lib.hid hM
      have HBb := Lib.hid hb
      have HMp := Lib.hid hmp
      have HB := Lib.hid hB
      clear hM hb hmp hB
      gi_wp2_with fail
      refine ⟨trivial, (callsIn_wide.2 (callsIn_wide.1 (bwalk_any Fence.wide 8 trivial rfl g (k : Int) W))).mono ?_⟩
      rintro e w2 ⟨rfl, rfl⟩
      have hB2 : Below W.heap.size W ((W.alloc (.cells #[.pointer (some ⟨g, 0, none⟩)] 26)).alloc (.cells #[.int .i64 (k : Int)] 3)) := ((Below.refl _ _).alloc (Nat.le_refl _) _).alloc (by simp) _
      have bt : Blk ((W.alloc (.cells #[.pointer (some ⟨g, 0, none⟩)] 26)).alloc (.cells #[.int .i64 (k : Int)] 3)) W.heap.size 26 #[.pointer (some ⟨g, 0, none⟩)] := (Blk.new _ _ _).alloc _
      have bv : Blk ((W.alloc (.cells #[.pointer (some ⟨g, 0, none⟩)] 26)).alloc (.cells #[.int .i64 (k : Int)] 3)) (W.heap.size + 1) 3 #[.int .i64 (k : Int)] := by
        have := Blk.new (W.alloc (.cells #[.pointer (some ⟨g, 0, none⟩)] 26)) 3 #[.int .i64 (k : Int)]
        rwa [World.size_alloc] at this
      generalize (W.alloc (.cells #[.pointer (some ⟨g, 0, none⟩)] 26)).alloc (.cells #[.int .i64 (k : Int)] 3) = W2 at *
      have hBw2 := HB.out.trans (hB2.mono hsz)
      gi_wp2_with fail
      refine ⟨trivial, (callsIn_wide.2 (collect0 W2 145 _ (enters_of Tryz.func145 (by kernel_rfl) rfl) (bwalk_sep0 (v := k) (by omega) HC.out (HT.out W2 hBw2) (bt.cell 0) (bv.cell 0) bt.lt bv.lt))).mono ?_⟩
      rintro e w3 ⟨rfl, hb3⟩
      have hB3 := hB2.trans (hb3.mono hB2.size)
      clear bt bv hb3 hB2 hBw2
      have hBw3 := HB.out.trans (hB3.mono hsz)
      have h3s := hB3.size
      gi_wp2_with fail
      refine ⟨trivial, (callsIn_wide.2 (callsIn_wide.1 (bwalk_any Fence.wide 8 trivial rfl g (k : Int) w3))).mono ?_⟩
      rintro e w4 ⟨rfl, rfl⟩
      have hB4 : Below w3.heap.size w3 ((w3.alloc (.cells #[.pointer (some ⟨g, 0, none⟩)] 26)).alloc (.cells #[.int .i64 (k : Int)] 3)) := ((Below.refl _ _).alloc (Nat.le_refl _) _).alloc (by simp) _
      have bt : Blk ((w3.alloc (.cells #[.pointer (some ⟨g, 0, none⟩)] 26)).alloc (.cells #[.int .i64 (k : Int)] 3)) w3.heap.size 26 #[.pointer (some ⟨g, 0, none⟩)] := (Blk.new _ _ _).alloc _
      have bv : Blk ((w3.alloc (.cells #[.pointer (some ⟨g, 0, none⟩)] 26)).alloc (.cells #[.int .i64 (k : Int)] 3)) (w3.heap.size + 1) 3 #[.int .i64 (k : Int)] := by
        have := Blk.new (w3.alloc (.cells #[.pointer (some ⟨g, 0, none⟩)] 26)) 3 #[.int .i64 (k : Int)]
        rwa [World.size_alloc] at this
      generalize (w3.alloc (.cells #[.pointer (some ⟨g, 0, none⟩)] 26)).alloc (.cells #[.int .i64 (k : Int)] 3) = W4 at *
      have hBw4 := hBw3.trans (hB4.mono hBw3.size)
      have hsep := bwalk_sep0 (n := 8) (v := k) (by omega) HC.out (HT.out W4 hBw4) (bt.cell 0) (bv.cell 0) bt.lt bv.lt
      have hBk4 := hB3.trans (hB4.mono h3s)
      have HBk := Lib.hid hBk4
      have HSep := Lib.hid hsep
      have HBw := Lib.hid hBw4
      have h4s := hBk4.size
      clear bt bv hB3 hBw3 hB4 hBw4 hsep hBk4
      gi_wp2
      refine wpIn_rangeFunc_sep rfl (by omega) (gf := 145) (lb := #[.pointer (some ⟨w3.heap.size, 0, none⟩), .pointer (some ⟨w3.heap.size + 1, 0, none⟩)]) rfl trivial (enters_of Tryz.func145 (by kernel_rfl) rfl) HSep.out (fun _ _ => trivial) (fun _ h => h.elim) (Below.refl _ _) (fun _ => rfl)
        (fun _ _ W' => Below W4.heap.size W4 W') (fun _ _ _ _ => False) ?_ ?_ (fun _ => False) (fun _ h => h.elim) (Below.refl _ _) ?_ ?_ ?_
      · rintro xs C A B h hb hs
        exact h.trans hb
      · rintro c xs C A B h
        exact h.elim
      · intro l pre x C W _ _ _ _ hl
        exact absurd hl (by omega)
      · rintro D xs C W5 hD _ _ h5 hK
        have hB5 := HBk.out.trans (h5.mono h4s)
        gi_wp2
        refine ⟨⟨k + 1, _, _, _, _, _, _, _, _, _, _, _, _, _, _, _, _, _, _, _, _, by go_num, by omega, (HM.out.below hB5).cons hK (by omega) ?_, HBb.out.below hB5 HBb.out.lt, HMp.out.below hB5 (by omega), HB.out.trans (hB5.mono hsz)⟩, ?_⟩
        · intro d hd e
          obtain ⟨r, e1, e2, e3⟩ := HM.out.1 d hd
          rw [e] at e1
          have := (Array.getElem?_eq_some_iff.1 e3).1
          injection e1 with e1
          omega
        · simp [intOf]
          omega
      · intro D c pre C W' _ _ _ h _
        exact h.elim
    · obtain rfl : k = n := by omega
      gi_wp2
      refine leaves_marks (base := w.heap.size) ds _ hM fun W' hk => ?_
      refine ⟨_, ?_, rfl, hB.trans (hk.below (fun k h => h.1) hsz)⟩
      simp [results, Tryz.results109, go_sem]
end Go.Proofs.YtghlnknncahkgaaGreat
/-
  walk.check: may it be walked? A closed surface's numbers.
-/
namespace Go.Proofs.YtghlnknncahkgaaGreat
open Go.RowKit Go.Maps

theorem loopsPost_closed {n : Nat} {T : List Tr} {w : World} {g : Nat} (h : Tab w g n T) (hc : ClosedT T) (hn : n ≤ 4096) : Calls Tryz.prog 109 #[.pointer (some ⟨g, 0, none⟩)] w (LoopsPost n T w) := by
  refine (loopsC_any g n T w h hc hn).mono ?_
  rintro e w' ⟨rfl, hb⟩
  exact ⟨_, [], [], rfl, World.ownsRow_nil _ _ _ _, Nat.zero_le _, fun i u r hu => by simp at hu, ⟨fun _ => hc, fun _ => rfl⟩, hb⟩
/-- The decision: one part, no border, Euler number 1, 2 or 3. -/
def ChkOk (n : Nat) (T : List Tr) : Prop := ∃ out, Shl T out ∧ cntL out = 1 ∧ ClosedT T ∧ (2 - 0 - ((n : Int) - 3 * (T.length : Int) / 2 + T.length)).tdiv 2 = 0
open Classical in
set_option maxRecDepth 100000 in
set_option maxHeartbeats 2000000 in
theorem check_walk (g n : Nat) (T : List Tr) (w : World) (r : Int) (hT : Tab w g n T) (hS : Surf n T) (hr : -1000000 ≤ r ∧ r ≤ 1000000) (hL : ∀ W, Below w.heap.size w W → Calls Tryz.prog 109 #[.pointer (some ⟨g, 0, none⟩)] W (LoopsPost n T W)) :
    Calls Tryz.prog 52 #[.pointer (some ⟨g, 0, none⟩), .int .i64 r] w fun e w' => e = .returned (.int .i64 (if r < 0 ∨ 3 * (T.length : Int) ≤ r then 2 else if ChkOk n T then 0 else 12)) ∧ Below w.heap.size w w' := by
  have H0 := Lib.hid (triangles_any g n T w hT.toTabS)
  have HG := Lib.hid (genus_any g n T w hT hS hL)
  have hl := hT.len
  obtain ⟨F, hF⟩ : ∃ F, T.length = F := ⟨_, rfl⟩
  rw [hF] at hl H0 ⊢
  have HF := Lib.hid hF
  have HS := Lib.hid hS
  clear hT hS hL hF
  go_enter Tryz.func52, Tryz.ntmps52
  by_cases h0 : r < 0
  · rw [if_pos (.inl h0)]
    go_wp2
    go_ret
    exact ⟨rfl, Below.refl _ _⟩
  · by_cases h1 : 3 * (F : Int) ≤ r
    · rw [if_pos (.inr h1)]
      go_wp2_with fail
      refine H0.out.mono ?_
      rintro e w0 ⟨rfl, rfl⟩
      go_wp2
      go_ret
      exact ⟨rfl, Below.refl _ _⟩
    · rw [if_neg (by omega)]
      obtain ⟨A, hA⟩ : ∃ A : Int, A = if ChkOk n T then 0 else 12 := ⟨_, rfl⟩
      rw [← hA]
      go_wp2_with fail
      refine H0.out.mono ?_
      rintro e w0 ⟨rfl, rfl⟩
      go_wp2_with fail
      refine HG.out.mono ?_
      rintro e w1 ⟨v, out, m, cs, rfl, hSh, hm, hr1, h6, hb⟩
      obtain ⟨av, cv, rfl⟩ := ownsRow_slice hr1
      have HB := Lib.hid hb
      clear HG H0 hb
      by_cases hm1 : m = 1
      · subst hm1
        obtain ⟨E, b, rfl, hb0, hb1, hE⟩ := h6 rfl
        obtain ⟨gO, cap, e0, hg1, hg2⟩ := hr1.form (by omega)
        cases e0
        have c3 : w1.cell? ⟨gO, 3, none⟩ = some (.int .i64 b) := by rw [hr1.cellAt 3 (by omega)]; rfl
        have c5 : w1.cell? ⟨gO, 5, none⟩ = some (.int .i64 ((2 - b - ((n : Int) - E + T.length)).tdiv 2)) := by rw [hr1.cellAt 5 (by omega)]; rfl
        generalize hz : (2 - b - ((n : Int) - E + T.length)).tdiv 2 = z at *
        have hok : ChkOk n T ↔ b = 0 ∧ z = 0 := by
          constructor
          · rintro ⟨out', h1, h2, h3, h4⟩
            have hb' := hb1.2 h3
            refine ⟨hb', ?_⟩
            rw [← hz, hb', hE h3]
            exact h4
          · rintro ⟨h1, h2⟩
            have hc := hb1.1 h1
            refine ⟨out, hSh, by rw [hm]; rfl, hc, ?_⟩
            rw [h1, hE hc, h2] at hz
            exact hz
        clear hr1 h6 hb1 hE hz hSh hm
        by_cases hb2 : b = 0
        · by_cases hz2 : z = 0
          · rw [if_pos (hok.2 ⟨hb2, hz2⟩)] at hA
            subst hb2 hz2 hA
            clear hok
            go_wp2
            go_ret
            exact ⟨rfl, HB.out⟩
          · rw [if_neg (fun h => hz2 (hok.1 h).2)] at hA
            subst hb2 hA
            have nz : (z == 0) = false := by simpa using hz2
            clear hok
            go_wp2
            go_ret
            exact ⟨rfl, HB.out⟩
        · rw [if_neg (fun h => hb2 (hok.1 h).1)] at hA
          subst hA
          have nz : (b == 0) = false := by simpa using hb2
          clear hok
          go_wp2
          go_ret
          exact ⟨rfl, HB.out⟩
      · have hno : ¬ ChkOk n T := by
          rintro ⟨out', h1, h2, h3, h4⟩
          have := hSh.one h1
          subst this
          omega
        rw [if_neg hno] at hA
        subst hA
        have nm : ((m : Int) == 1) = false := by simp; omega
        clear hr1 h6 hSh hm hno
        go_wp2
        go_ret
        exact ⟨rfl, HB.out⟩
end Go.Proofs.YtghlnknncahkgaaGreat
/-
  The program's decision is: simple.
-/
namespace Go.Proofs.YtghlnknncahkgaaGreat
open Go.RowKit Go.Maps

theorem cnt_rep : ∀ (k : Nat), cntL (List.replicate (k + 1) 0) = 1
  | 0 => rfl
  | k + 1 => by
    have := cnt_rep k
    unfold cntL at this ⊢
    rw [List.replicate_succ', List.foldl_append, this]
    rfl
theorem chk_simp {n : Nat} {T : List Tr} (hS : Surf n T) : ChkOk n T ↔ Simp n T := by
  constructor
  · rintro ⟨out, h1, h2, h3, h4⟩
    have h0 : ∀ j, j < T.length → at_ out j = 0 := fun j hj => by
      have a := h1.nn j hj
      have b := at_lt (out := out) (j := j) (by rw [h1.len]; exact hj)
      omega
    have hpos : 0 < T.length := by
      rcases Nat.eq_zero_or_pos T.length with e | e
      · have : out = [] := List.eq_nil_of_length_eq_zero (by rw [h1.len, e])
        rw [this] at h2
        cases h2
      · exact e
    have hc := conn_of h1 h3 h0
    obtain ⟨m, e1, e2⟩ := even_of hS h3 hc
    refine ⟨hS, h3, hc, hpos, ?_⟩
    have e3 : 3 * (T.length : Int) / 2 = 3 * (m : Int) := by rw [e1]; push_cast; omega
    rw [e3, e1] at h4
    have h5 : -1 ≤ 2 - 0 - ((n : Int) - 3 * (m : Int) + ((2 * m : Nat) : Int)) ∧ 2 - 0 - ((n : Int) - 3 * (m : Int) + ((2 * m : Nat) : Int)) ≤ 1 := by
      generalize 2 - 0 - ((n : Int) - 3 * (m : Int) + ((2 * m : Nat) : Int)) = x at h4
      rcases Int.le_total 0 x with h | h
      · rw [Int.tdiv_eq_ediv_of_nonneg h] at h4
        omega
      · have h5 : (-x).tdiv 2 = 0 := by rw [Int.neg_tdiv, h4]; rfl
        rw [Int.tdiv_eq_ediv_of_nonneg (by omega)] at h5
        omega
    have e4 : ((n : Int)).toNat = n := Int.toNat_natCast n
    rw [e4] at e2
    omega
  · intro h
    obtain ⟨k, hk⟩ : ∃ k, T.length = k + 1 := ⟨T.length - 1, by have := h.pos; omega⟩
    have hat : ∀ j, j < T.length → at_ (List.replicate T.length 0) j = 0 := fun j hj => by
      unfold at_
      simp [List.getD_eq_getElem?_getD, hj]
    refine ⟨List.replicate T.length 0, ⟨by simp, fun j hj => by rw [hat j hj]; omega, fun c o hc ho => ?_, fun j hj => ?_⟩, by rw [hk]; exact cnt_rep k, h.closed, ?_⟩
    · have h1 := oppI_bd T (c : Int)
      rw [hat _ (by omega), hat _ (by omega)]
    · rcases Nat.eq_zero_or_pos j with e | e
      · subst e
        exact .inr ⟨fun i hi => by omega, .inl (hat 0 hj)⟩
      · refine .inl ⟨0, e, by rw [hat 0 (by omega), hat j hj], fun S s0 hs => h.conn S s0 (fun c hc hSc => hs c (oppN T c) hc (h.closed.opp hc) hSc) j hj⟩
    · have := h.euler
      obtain ⟨m, hm⟩ : ∃ m : Nat, T.length = 2 * m := ⟨T.length / 2, by omega⟩
      have e3 : 3 * (T.length : Int) / 2 = 3 * (m : Int) := by rw [hm]; push_cast; omega
      rw [e3, hm]
      have e5 : 2 - 0 - ((n : Int) - 3 * (m : Int) + ((2 * m : Nat) : Int)) = 0 := by omega
      rw [e5]
      rfl
end Go.Proofs.YtghlnknncahkgaaGreat
/-
  walk.Steps: the iterator's contract: all steps, or as many as are asked for.
-/
namespace Go.Proofs.YtghlnknncahkgaaGreat
open Go.RowKit Go.Maps Go.Shelf
attribute [local go_sem] Oper.semAt_some

/-- walk.Steps: the function value holds the table and the corner in boxes. -/
theorem wsteps_any (F : Fence) (n : Nat) (h6 : F.fn 27) (hro : F.round = none) (a : Option Addr) (r : Int) (w : World) :
    CallsIn F n Tryz.prog 27 #[.pointer a, .int .i64 r] w fun e w' => e = .returned (.func (.func 58) #[] #[.pointer (some ⟨w.heap.size, 0, none⟩), .pointer (some ⟨w.heap.size + 1, 0, none⟩)]) ∧ w' = (w.alloc (.cells #[.pointer a] 26)).alloc (.cells #[.int .i64 r] 3) := by
  refine callsIn_of_wp Tryz.func27 rfl h6 ?_ hro
  simp only [Tryz.ntmps27, List.size_toArray, List.length_cons, List.length_nil, Nat.reduceAdd, Nat.reduceSub, Array.replicate_succ, Array.replicate_zero, List.push_toArray, List.append_toArray, List.nil_append, List.cons_append]
  gi_wp2
  go_ret
  exact ⟨rfl, rfl⟩
/-- A step as it is yielded. -/
def encS (x : WStep) : Array Value := #[.agg #[.int .u8 x.letter, .int .i64 x.corner, .int .i64 x.loops, .int .i64 x.length]]
/-- The iterator's state between two rounds. -/
structure SteI (w : World) (g n : Nat) (T : List Tr) (c b : Nat) (base : Nat) (J : List WStep → (Nat → Prop) → World → Prop) (k : Nat) (W : World) : Prop where
  st : ∃ L s S C, Ran T (beginS T c) L s ∧ WayS W base g b n S s ∧ J L C W ∧ (∀ j, C j → w.heap.size ≤ j ∧ j < W.heap.size ∧ ¬ S j) ∧ k + L.length = T.length
  below : Below w.heap.size w W
set_option maxRecDepth 100000 in
set_option maxHeartbeats 4000000 in
theorem steps1_sep {w : World} {m Bt Bc g n c : Nat} {T : List Tr} (hs : Simp n T) (hT : Tab w g n T) (hc : c < 3 * T.length) :
    SeqSep Fence.wide m Tryz.prog 58 #[.pointer (some ⟨Bt, 0, none⟩), .pointer (some ⟨Bc, 0, none⟩)] encS (fun xs => xs = stepsM T c) (fun pre => ∃ s, Ran T (beginS T c) pre s) T.length w (fun _ => False) (fun W => W.cell? ⟨Bt, 0, none⟩ = some (.pointer (some ⟨g, 0, none⟩)) ∧ W.cell? ⟨Bc, 0, none⟩ = some (.int .i64 c) ∧ Bt < W.heap.size ∧ Bc < W.heap.size) := by
  rintro l J Jx W C hW ⟨t0, c0, lt, lc⟩ - hJ hJx hY h0 hC
  have hTl := hT.len
  have hn : n ≤ 4096 := by have := hs.surf.n1; omega
  have hz := hW.size
  have HCk := Lib.hid (check_walk g n T W (c : Int) (hT.below hW) hs.surf (by omega) (fun W' hW' => loopsPost_closed ((hT.below hW).below hW') hs.closed hn))
  rw [if_neg (by omega), if_pos ((chk_simp hs.surf).2 hs)] at HCk
  have HT := Lib.hid (fun (W' : World) (hW' : Below w.heap.size w W') => hT.below hW')
  have HS := Lib.hid hs
  have HJ := Lib.hid hJ
  have HY := Lib.hid hY
  have HJ0 := Lib.hid h0
  have HC := Lib.hid hC
  have HW := Lib.hid hW
  clear hs hT hJ hJx hY h0 hC hW
  refine callsIn_of_wp Tryz.func58 rfl trivial ?_ rfl
  simp only [Tryz.ntmps58, List.size_toArray, List.length_cons, List.length_nil, Nat.reduceAdd, Nat.reduceSub, Array.replicate_succ, Array.replicate_zero, List.push_toArray, List.append_toArray, List.nil_append, List.cons_append]
  gi_wp2_with fail
  refine ⟨trivial, fun h => (by simp [Fence.wide] at h), (callsIn_wide.2 HCk.out).mono ?_⟩
  rintro e w1 ⟨rfl, hb1⟩
  have t1 := (hb1.cell (p := ⟨Bt, 0, none⟩) (by simp only; omega)).trans t0
  have c1 := (hb1.cell (p := ⟨Bc, 0, none⟩) (by simp only; omega)).trans c0
  have HW1 := Lib.hid (HW.out.trans (hb1.mono hz))
  have HB1 := Lib.hid hb1
  clear hb1 HCk t0 c0
  gi_wp2_with fail
  refine ⟨trivial, fun h => (by simp [Fence.wide] at h), (callsIn_wide.2 (begin_any (HT.out w1 HW1.out) HS.out.surf hc)).mono ?_⟩
  rintro e w2 ⟨b, vC, vL, vW, vs, rfl, hA, hb2⟩
  have hb12 := HB1.out.trans (hb2.mono HB1.out.size)
  have HI := Lib.hid (show SteI w g n T c b w1.heap.size J T.length w2 from ⟨⟨[], beginS T c, OwnA b vC vL vW vs, C, .nil, ⟨fun j hj => hA.own_ge hj, .inl ⟨vC, vL, vW, vs, hA, fun _ h => h⟩⟩, HJ.out _ _ _ _ HJ0.out (hb12.mono hz) (fun j hj => hb12.block j (HC.out j hj).2.1),
    fun j hj => by
      have h1 := HC.out j hj
      have h2 := hb12.size
      have h3 := HB1.out.size
      exact ⟨h1.1, by omega, fun h => by have := (hA.own_ge h).1; omega⟩, by simp⟩, HW1.out.trans (hb2.mono HW1.out.size)⟩)
  have hz1 := HW1.out.size
  clear hA hb2 hb12 t1 c1 HB1
  gi_wp2
  gi_loopg [] T.length (fun k wr => SteI w g n T c b w1.heap.size J k wr)
  case atStart => exact HI.out
  case round =>
    clear HI HJ0 HC
    rename World => wr
    obtain ⟨⟨L, s, S, C1, R, hWs, hJL, hC1, hk⟩, hB⟩ := hrel
    obtain ⟨Xs, G⟩ := R.gone HS.out hc
    have hzr := hB.size
    have hbw1 : w.heap.size ≤ w1.heap.size := hz1
    have stab : ∀ (A : World), Kept S wr A → J L C1 A := fun A hK => HJ.out _ _ _ _ hJL (hK.below (fun j hj => by have := (hWs.1 j hj).1; omega) hzr) (fun j hj => hK.block j (hC1 j hj).2.1 (hC1 j hj).2.2)
    have HST := Lib.hid stab
    by_cases hl : s.loop = []
    · have HE := Lib.hid (step_end hWs hl (by
        obtain ⟨h1, ⟨vC, vL, vW, vs, h2, h3⟩ | ⟨h2, h3, h4⟩⟩ := hWs
        · exact h2.ble
        · have := h1 b h3
          omega))
      have HR := Lib.hid (R.steps HS.out hc hl)
      clear hWs hJL hC1 hB G R stab
      gi_wp2_with fail
      refine ⟨trivial, fun h => (by simp [Fence.wide] at h), (callsIn_wide.2 HE.out).mono ?_⟩
      rintro e w3 ⟨rfl, hK⟩
      have HJ3 := Lib.hid (HST.out _ (hK.alloc (.cells #[.int .u8 0, .int .i64 0, .int .i64 0, .int .i64 0] 55)))
      clear hK HE
      gi_wp2
      refine ⟨fun f h => (by cases h), ?_⟩
      gi_wp2
      refine bodyPost_ret (results_none rfl _ _ _) rfl ?_
      exact ⟨⟨_, rfl⟩, .inl ⟨L, C1, HR.out, HJ3.out⟩⟩
    · obtain ⟨x, s', Xs', hst, G', -⟩ := G.next HS.out hl
      obtain ⟨q1, q2, q3, q4, q5⟩ := G.wants HS.out
      have hlt := (G'.lt HS.out).1
      have HE := Lib.hid (step_any (HT.out wr hB) hWs hst q1 hn (by omega) (by omega) (q4 hl) q5)
      have HR := Lib.hid (Ran.snoc R hst)
      have HWs := Lib.hid hWs.1
      have HC1 := Lib.hid hC1
      have HBr := Lib.hid hB
      have hLx : (L ++ [x]).length = L.length + 1 := by simp
      clear hWs hJL hC1 hB G G' R stab q1 q2 q3 q4 q5 hst
      gi_wp2_with fail
      refine ⟨trivial, fun h => (by simp [Fence.wide] at h), (callsIn_wide.2 HE.out).mono ?_⟩
      rintro e w3 ⟨rfl, S', hWs', hS', hK⟩
      obtain ⟨xl, xc, xo, xn⟩ := x
      have hK4 := hK.alloc (.cells #[.int .u8 xl, .int .i64 xc, .int .i64 xo, .int .i64 xn] 55)
      have hJ4 := HST.out _ hK4
      have hz3 := hK.size
      have bs := Blk.new w3 55 #[.int .u8 xl, .int .i64 xc, .int .i64 xo, .int .i64 xn]
      obtain ⟨fn, tmps, assign, body, hy, hR⟩ := HY.out L ⟨xl, xc, xo, xn⟩ C1 _ hJ4 (by omega)
      have hz4 : (w3.alloc (.cells #[.int .u8 xl, .int .i64 xc, .int .i64 xo, .int .i64 xn] 55)).heap.size = w3.heap.size + 1 := World.size_alloc _ _
      have hWs4 := hWs'.same (w' := w3.alloc (.cells #[.int .u8 xl, .int .i64 xc, .int .i64 xo, .int .i64 xn] 55)) (by omega) (fun j hj => Below.heap_alloc _ _ _ (hWs'.1 j hj).2)
      have hB4 := HBr.out.trans ((hK4.below (fun j hj => by have := (HWs.out j hj).1; omega) hzr))
      have Hz4 := Lib.hid hz4
      have HWs4 := Lib.hid hWs4
      have HWb := Lib.hid hWs'.1
      have HS' := Lib.hid hS'
      have HB4 := Lib.hid hB4
      unfold encS at hy
      dsimp only at hy
      obtain ⟨-, b0, b1, b2, b3, -⟩ := four bs
      clear hWs' hS' hK hK4 hJ4 hWs4 hB4 HE bs hz4
      gi_wp2
      refine ⟨fun h => (by simp [Fence.wide] at h), hR.mono ?_⟩
      rintro e w5 ⟨hK5, C', hC', ⟨rfl, hJ5⟩ | ⟨rfl, hJ5⟩⟩
      · have hz5 := hK5.size
        have hSd : ∀ j, S' j → ¬ C1 j := fun j hj hc1 => by
          have h1 := HC1.out j hc1
          rcases HS'.out j hj with h | h
          · exact h1.2.2 h
          · omega
        have hWs5 := HWs4.out.same hz5 (fun j hj => hK5.block j (HWs4.out.1 j hj).2 (hSd j hj))
        have hB5 := HB4.out.trans (hK5.below (fun j hj => (HC1.out j hj).1) HB4.out.size)
        have HI5 := Lib.hid (show SteI w g n T c b w1.heap.size J (T.length - (L.length + 1)) w5 from ⟨⟨L ++ [⟨xl, xc, xo, xn⟩], s', S', C', HR.out, hWs5, hJ5, fun j hj => by
          rcases hC' j hj with h | h
          · have h1 := HC1.out j h
            exact ⟨h1.1, by have := Hz4.out; omega, fun h2 => hSd j h2 h⟩
          · have := Hz4.out
            have := HB4.out.size
            exact ⟨by omega, h.2, fun h2 => by have := (HWb.out j h2).2; omega⟩, by simp; omega⟩, hB5⟩)
        clear hK5 hC' hJ5 hWs5 hB5 hR hSd
        gi_wp2
        gi_roundg (T.length - (L.length + 1))
        case measure => omega
        case rel => exact HI5.out
      · have HJ5 := Lib.hid hJ5
        clear hJ5 hK5 hC' hR
        gi_wp2
        refine bodyPost_ret (results_none rfl _ _ _) rfl ?_
        exact ⟨⟨_, rfl⟩, .inr ⟨_, C', ⟨s', HR.out⟩, HJ5.out⟩⟩
set_option maxHeartbeats 1000000 in
theorem check_nil (r : Int) (w : World) : Calls Tryz.prog 52 #[.pointer none, .int .i64 r] w fun e w' => e = .returned (.int .i64 1) ∧ Below w.heap.size w w' := by
  go_enter Tryz.func52, Tryz.ntmps52
  go_wp2
  go_ret
  exact ⟨rfl, Below.refl _ _⟩
set_option maxRecDepth 100000 in
set_option maxHeartbeats 1000000 in
/-- Where there is no walk there are no steps. -/
theorem steps_none_sep {w : World} {m Bt Bc : Nat} {a : Option Addr} {r z : Int} (hz : z ≠ 0) (HCk : ∀ W, Below w.heap.size w W → Calls Tryz.prog 52 #[.pointer a, .int .i64 r] W fun e w' => e = .returned (.int .i64 z) ∧ Below W.heap.size W w') :
    SeqSep Fence.wide m Tryz.prog 58 #[.pointer (some ⟨Bt, 0, none⟩), .pointer (some ⟨Bc, 0, none⟩)] encS (fun xs => xs = []) (fun _ => False) 0 w (fun _ => False) (fun W => W.cell? ⟨Bt, 0, none⟩ = some (.pointer a) ∧ W.cell? ⟨Bc, 0, none⟩ = some (.int .i64 r) ∧ Bt < W.heap.size ∧ Bc < W.heap.size) := by
  rintro l J Jx W C hW ⟨t0, c0, lt, lc⟩ - hJ hJx hY h0 hC
  have HC := Lib.hid (HCk W hW)
  have HJ := Lib.hid (fun (W' : World) (hb : Below W.heap.size W W') => hJ _ _ _ _ h0 (hb.mono hW.size) (fun j hj => hb.block j (hC j hj).2.1))
  have nz : (z == 0) = false := by simpa using hz
  clear HCk hJ hJx hY h0 hC hW hz
  refine callsIn_of_wp Tryz.func58 rfl trivial ?_ rfl
  simp only [Tryz.ntmps58, List.size_toArray, List.length_cons, List.length_nil, Nat.reduceAdd, Nat.reduceSub, Array.replicate_succ, Array.replicate_zero, List.push_toArray, List.append_toArray, List.nil_append, List.cons_append]
  gi_wp2_with fail
  refine ⟨trivial, fun h => (by simp [Fence.wide] at h), (callsIn_wide.2 HC.out).mono ?_⟩
  rintro e w1 ⟨rfl, hb1⟩
  gi_wp2
  refine bodyPost_ret (results_none rfl _ _ _) rfl ?_
  exact ⟨⟨_, rfl⟩, .inl ⟨_, C, rfl, HJ.out _ hb1⟩⟩
end Go.Proofs.YtghlnknncahkgaaGreat
/-
  A region that draws its order, by a state that every operation keeps: each operation is looked at once, whatever the order.
-/
namespace Go.Proofs.YtghlnknncahkgaaGreat
open Go.RowKit

theorem countP_lt {p q : Nat → Bool} : ∀ {l : List Nat}, (∀ j, q j = true → p j = true) → ∀ i, i ∈ l → p i = true → q i = false → l.countP q < l.countP p
  | [], _, _, h, _, _ => (List.not_mem_nil h).elim
  | x :: l, hs, i, h, h1, h2 => by
    have hle : l.countP q ≤ l.countP p := List.countP_mono_left (fun j _ hj => hs j hj)
    rcases List.mem_cons.1 h with rfl | h
    · rw [List.countP_cons_of_neg (by rw [h2]; decide), List.countP_cons_of_pos h1]
      omega
    · have ih := countP_lt hs i h h1 h2
      rw [List.countP_cons, List.countP_cons]
      have : (if q x = true then 1 else 0) ≤ (if p x = true then 1 else 0) := by
        by_cases hq : q x = true
        · rw [if_pos hq, if_pos (hs x hq)]
          exact Nat.le_refl _
        · rw [if_neg hq]
          exact Nat.zero_le _
      omega
theorem all_listed {md : Region.Mode} {ops : Array Oper} {listed : Array Bool} (hord : ∀ (i : Nat) (o : Oper), ops[i]? = some o → ∀ e ∈ o.after, e.on < i) (hs : listed.size = ops.size) (hr : Region.ready md ops listed = []) : ∀ i, i < ops.size → listed.getD i false = true := by
  intro i
  induction i using Nat.strongRecOn with
  | _ i ih =>
    intro hi
    by_cases hl : listed.getD i true = false
    · have ho : ops[i]? = some ops[i] := Array.getElem?_eq_getElem hi
      have : i ∈ Region.ready md ops listed := mem_ready.2 ⟨hl, _, ho, fun e he _ => ih e.on (hord i _ ho e he) (by have := hord i _ ho e he; omega)⟩
      rw [hr] at this
      exact (List.not_mem_nil this).elim
    · have hi' : i < listed.size := by omega
      rw [Array.getD_eq_getD_getElem?, Array.getElem?_eq_getElem hi'] at hl ⊢
      simpa using hl
/-- The law. -/
theorem wpAnyIn_state {F : Fence} {n : Nat} {P : Program} {md : Region.Mode} {ops : Array Oper} {Q : Exit → Act → World → Prop} {I : Array Bool → Act → World → Prop} (hord : ∀ (i : Nat) (o : Oper), ops[i]? = some o → ∀ e ∈ o.after, e.on < i)
    (step : ∀ (i : Nat) (o : Oper) (listed : Array Bool) (a : Act) (w : World), ops[i]? = some o → listed.size = ops.size → listed.getD i true = false → (∀ e ∈ o.after, Region.binds md e = true → listed.getD e.on false = true) → I listed a w →
      ∀ K : Act → World → Prop, (∀ a' w', I (listed.setIfInBounds i true) a' w' → K a' w') → if Region.wanted o (yielded ops a.tmps) = true then o.wpIn F n P a w K Q else ((∀ f, o.about P w a.eval = some f → F.fn f) ∧ K (a.put o.dst undef) w))
    (done : ∀ (listed : Array Bool) (a : Act) (w : World), (∀ i, i < ops.size → listed.getD i false = true) → I listed a w → Q .normal a w) :
    ∀ (fuel : Nat) (listed : Array Bool) (a : Act) (w : World), listed.size = ops.size → (List.range ops.size).countP (fun i => !listed.getD i true) ≤ fuel → I listed a w → wpAnyIn F n P md ops Q fuel listed a w
  | 0, listed, a, w, hs, hc, hI => by
    have hr : Region.ready md ops listed = [] := by
      apply List.eq_nil_iff_forall_not_mem.2
      intro i hi
      obtain ⟨h1, o, ho, -⟩ := mem_ready.1 hi
      have hi' : i < ops.size := (Array.getElem?_eq_some_iff.1 ho).1
      have := List.countP_pos_iff (p := fun i => !listed.getD i true).2 ⟨i, List.mem_range.2 hi', by simp only [h1]; rfl⟩
      omega
    exact ⟨hr, done _ _ _ (all_listed hord hs hr) hI⟩
  | fuel + 1, listed, a, w, hs, hc, hI => by
    refine ⟨fun hr => done _ _ _ (all_listed hord hs hr) hI, fun i hi => ?_⟩
    obtain ⟨h1, o, ho, hd⟩ := mem_ready.1 hi
    have hi' : i < ops.size := (Array.getElem?_eq_some_iff.1 ho).1
    have hs' : (listed.setIfInBounds i true).size = ops.size := by rw [Array.size_setIfInBounds]; exact hs
    have hlt : (List.range ops.size).countP (fun j => !(listed.setIfInBounds i true).getD j true) < (List.range ops.size).countP (fun j => !listed.getD j true) :=
      countP_lt (fun j hj => by
        by_cases hij : i = j
        · subst hij
          simp [Array.getD_eq_getD_getElem?, hs, hi'] at hj
        · rw [getD_set_ne true hij] at hj
          exact hj) i (List.mem_range.2 hi') (by rw [h1]; rfl) (by simp [Array.getD_eq_getD_getElem?, hs, hi'])
    unfold wpOpIn
    rw [ho]
    exact step i o listed a w ho hs h1 hd hI _ (fun a' w' h => wpAnyIn_state hord step done fuel _ a' w' hs' (by omega) h)
theorem wpIn_region_state {F : Fence} {n : Nat} {P : Program} {id : Nat} {ops : Array Oper} {Q : Exit → Act → World → Prop} {a : Act} {w : World} (hm : P.follows .mixedOrders = true) (I : Array Bool → Act → World → Prop) (hord : ∀ (i : Nat) (o : Oper), ops[i]? = some o → ∀ e ∈ o.after, e.on < i)
    (h0 : I (Array.replicate ops.size false) a w.drew)
    (step : ∀ (i : Nat) (o : Oper) (listed : Array Bool) (a : Act) (w : World), ops[i]? = some o → listed.size = ops.size → listed.getD i true = false → (∀ e ∈ o.after, Region.binds .any e = true → listed.getD e.on false = true) → I listed a w →
      ∀ K : Act → World → Prop, (∀ a' w', I (listed.setIfInBounds i true) a' w' → K a' w') → if Region.wanted o (yielded ops a.tmps) = true then o.wpIn F n P a w K Q else ((∀ f, o.about P w a.eval = some f → F.fn f) ∧ K (a.put o.dst undef) w))
    (done : ∀ (listed : Array Bool) (a : Act) (w : World), (∀ i, i < ops.size → listed.getD i false = true) → I listed a w → Q .normal a w) : (Code.region id ops true).wpIn F n P Q a w := by
  refine wpIn_region_any hm (wpAnyIn_state hord step done ops.size _ _ _ (by simp) ?_ h0)
  have := List.countP_le_length (p := fun i => !(Array.replicate ops.size false).getD i true) (l := List.range ops.size)
  rwa [List.length_range] at this
end Go.Proofs.YtghlnknncahkgaaGreat
/-
  append inside a fence, where the row lies told; what a walk's caller keeps: three rows and their boxes.
-/
namespace Go.Proofs.YtghlnknncahkgaaGreat
open Go.RowKit

theorem operIn_append_lies {F : Fence} {n : Nat} {P : Program} {w : World} {o : Oper} {a : Act} {K : Act → World → Prop} {Q : Exit → Act → World → Prop} (s x : Operand) (t : TypeId)
    (hop : o.op = .call { callee := .builtin .append, args := #[s, x], argTypes := #[t, t] })
    (base : Nat) (e : TypeId) (i : TypeInfo) (z : Value) (size bytes : Nat) (ht : P.underlying t = some (.slice e)) (hi : P.info? e = some i) (hz : i.zero = some z)
    (hsize : i.size = size) (hby : i.bytes = bytes) (hzs : z.cells.size = size) (hsz : 0 < size)
    (v : Value) (k : Nat) (xs : List Value) (hs : a.eval s = v) (hown : w.ownsRow base e size v k xs)
    (ad : Addr) (m c : Nat) (news : List Value) (hx : a.eval x = .slice (some ad) m c) (hl : news.length = m * size) (hnews : ∀ j u, news[j]? = some u → w.cell? (ad.add j) = some u) (h1 : ∀ u ∈ news, u.oneCell' = true)
    (hm : 0 < m) (h63 : k + m ≤ maxLen) (hbytes : (k + m) * bytes ≤ 140737488355328) (hbase : base ≤ w.heap.size)
    (h : ∀ g cap w', w'.ownsRow base e size (.slice (some ⟨g, 0, none⟩) (k + m) cap) (k + m) (xs ++ news) → w.grownBy w' v.ownBlock → (v.ownBlock = some g ∨ g = w.heap.size) → g < w'.heap.size → K (a.put o.dst (.slice (some ⟨g, 0, none⟩) (k + m) cap)) w') :
    o.wpIn F n P a w K Q := by
  obtain ⟨g, cap, w', hrun, r1, r2, r3, r4⟩ := run_append_lies (P := P) (w := w) t o.type base e i z size bytes ht hi hz hsize hby hzs hsz v k xs hown ad m c news hl hnews h1 hm h63 hbytes hbase _ rfl
  unfold Oper.wpIn
  refine ⟨?_, ?_⟩
  · simp [Oper.about, hop, resolve, Target.leads, Sem.run_pure]
  · rw [Oper.semAt_plain F _ _ (by rw [hop]; intro c hc'; cases hc')]
    simp [execOp, hop, resolve, invoke, builtin, hs, hx, hrun, Result.andThen]
    exact h g cap w' r1 r2 r3 r4
theorem wpListIn_append_lies {F : Fence} {n : Nat} {P : Program} {w : World} {ops : Array Oper} {rest : List Oper} {o : Oper} {a : Act} {Q : Exit → Act → World → Prop} (hg : o.guard = none) (s x : Operand) (t : TypeId)
    (hop : o.op = .call { callee := .builtin .append, args := #[s, x], argTypes := #[t, t] })
    (base : Nat) (e : TypeId) (i : TypeInfo) (z : Value) (size bytes : Nat) (ht : P.underlying t = some (.slice e)) (hi : P.info? e = some i) (hz : i.zero = some z)
    (hsize : i.size = size) (hby : i.bytes = bytes) (hzs : z.cells.size = size) (hsz : 0 < size)
    (v : Value) (k : Nat) (xs : List Value) (hs : a.eval s = v) (hown : w.ownsRow base e size v k xs)
    (ad : Addr) (m c : Nat) (news : List Value) (hx : a.eval x = .slice (some ad) m c) (hl : news.length = m * size) (hnews : ∀ j u, news[j]? = some u → w.cell? (ad.add j) = some u) (h1 : ∀ u ∈ news, u.oneCell' = true)
    (hm : 0 < m) (h63 : k + m ≤ maxLen) (hbytes : (k + m) * bytes ≤ 140737488355328) (hbase : base ≤ w.heap.size)
    (h : ∀ g cap w', w'.ownsRow base e size (.slice (some ⟨g, 0, none⟩) (k + m) cap) (k + m) (xs ++ news) → w.grownBy w' v.ownBlock → (v.ownBlock = some g ∨ g = w.heap.size) → g < w'.heap.size → wpListIn F n P ops Q rest (a.put o.dst (.slice (some ⟨g, 0, none⟩) (k + m) cap)) w') :
    wpListIn F n P ops Q (o :: rest) a w :=
  wpListIn_plain hg fun _K hK' => operIn_append_lies s x t hop base e i z size bytes ht hi hz hsize hby hzs hsz v k xs hs hown ad m c news hx hl hnews h1 hm h63 hbytes hbase (fun g cap w' r1 r2 r3 r4 => hK' _ _ (h g cap w' r1 r2 r3 r4))

/-- What walk.Walk keeps while it ranges over the steps. -/
structure WkS (w : World) (base q bw g : Nat) (lV lC lB : List Value) (vV vC vB : Value) (W : World) : Prop where
  t : Blk W w.heap.size 26 #[.pointer (some ⟨g, 0, none⟩)]
  r : Blk W (w.heap.size + 1) 45 #[.string ByteArray.empty, .slice none 0 0, .slice none 0 0]
  tr : Blk W q 45 #[.string ByteArray.empty, vV, vC]
  bx : Blk W bw 95 #[vB]
  rV : W.ownsRow base 3 1 vV lV.length lV
  rC : W.ownsRow base 3 1 vC lC.length lC
  rB : W.ownsRow base 5 1 vB lB.length lB
  ne : vV.ownBlock ≠ vC.ownBlock
  below : Below w.heap.size w W
  hq : base ≤ q
  hbw : base ≤ bw
  hw : w.heap.size + 1 < base
/-- Its blocks. -/
def OwnW (w : World) (q bw : Nat) (vV vC vB : Value) (k : Nat) : Prop := k = w.heap.size ∨ k = w.heap.size + 1 ∨ k = q ∨ k = bw ∨ vV.ownBlock = some k ∨ vC.ownBlock = some k ∨ vB.ownBlock = some k
section
variable {w W W' : World} {base q bw g : Nat} {lV lC lB : List Value} {vV vC vB v' : Value}
theorem WkS.rng (h : WkS w base q bw g lV lC lB vV vC vB W) {k : Nat} (hk : OwnW w q bw vV vC vB k) : w.heap.size ≤ k ∧ k < W.heap.size := by
  have := h.hw
  have := h.hq
  have := h.hbw
  rcases hk with rfl | rfl | rfl | rfl | e | e | e
  · exact ⟨Nat.le_refl _, h.t.lt⟩
  · exact ⟨by omega, h.r.lt⟩
  · exact ⟨by omega, h.tr.lt⟩
  · exact ⟨by omega, h.bx.lt⟩
  · have := h.rV.lt k e; omega
  · have := h.rC.lt k e; omega
  · have := h.rB.lt k e; omega
theorem WkS.same (h : WkS w base q bw g lV lC lB vV vC vB W) (hb : Below w.heap.size W W') (hs : ∀ k, OwnW w q bw vV vC vB k → W'.heap[k]? = W.heap[k]?) : WkS w base q bw g lV lC lB vV vC vB W' :=
  ⟨blk_same h.t (hs _ (.inl rfl)), blk_same h.r (hs _ (.inr (.inl rfl))), blk_same h.tr (hs _ (.inr (.inr (.inl rfl)))), blk_same h.bx (hs _ (.inr (.inr (.inr (.inl rfl))))),
    own_same h.rV (fun k e => hs k (.inr (.inr (.inr (.inr (.inl e)))))), own_same h.rC (fun k e => hs k (.inr (.inr (.inr (.inr (.inr (.inl e))))))), own_same h.rB (fun k e => hs k (.inr (.inr (.inr (.inr (.inr (.inr e))))))), h.ne, h.below.trans hb, h.hq, h.hbw, h.hw⟩
theorem WkS.alloc (h : WkS w base q bw g lV lC lB vV vC vB W) (o : Obj) : WkS w base q bw g lV lC lB vV vC vB (W.alloc o) :=
  h.same ((Below.refl _ _).alloc h.below.size _) (fun _k hk => Below.heap_alloc _ _ _ (h.rng hk).2)
theorem WkS.drew (h : WkS w base q bw g lV lC lB vV vC vB W) : WkS w base q bw g lV lC lB vV vC vB W.drew := h.same (Below.refl _ _).drew (fun _ _ => rfl)
theorem WkS.bs (h : WkS w base q bw g lV lC lB vV vC vB W) : base ≤ W.heap.size := Nat.le_trans h.hq (Nat.le_of_lt h.tr.lt)
theorem own_blk_far {p : Nat} {t : TypeId} {cs : Array Value} {e : TypeId} {s k : Nat} {v u : Value} {xs : List Value} {b j : Nat} (h : W.ownsRow b e s v k xs) (hb : Blk W p t cs) (hne : e ≠ t) : (W.setCell ⟨p, j, none⟩ u).ownsRow b e s v k xs := own_alloc_st h hb hne
/-- The word is longer by a letter. -/
theorem WkS.appB (h : WkS w base q bw g lV lC lB vV vC vB W) {u : Value} {g' cap : Nat} {k : Nat} (hg : W.grownBy W' vB.ownBlock) (hr : W'.ownsRow base 5 1 (.slice (some ⟨g', 0, none⟩) k cap) k (lB ++ [u])) (hk : k = lB.length + 1) (hat : vB.ownBlock = some g' ∨ g' = W.heap.size) :
    WkS w base q bw g lV lC (lB ++ [u]) vV vC (.slice (some ⟨g', 0, none⟩) k cap) (W'.setCell ⟨bw, 0, none⟩ (.slice (some ⟨g', 0, none⟩) k cap)) ∧ Kept (OwnW w q bw vV vC vB) W (W'.setCell ⟨bw, 0, none⟩ (.slice (some ⟨g', 0, none⟩) k cap)) ∧
      Anew (OwnW w q bw vV vC vB) (OwnW w q bw vV vC (.slice (some ⟨g', 0, none⟩) k cap)) W (W'.setCell ⟨bw, 0, none⟩ (.slice (some ⟨g', 0, none⟩) k cap)) := by
  subst hk
  have nB : ∀ {p : Nat} {t : TypeId} {cs : Array Value}, Blk W p t cs → t ≠ 5 → some p ≠ vB.ownBlock := fun hb hne e => own_blk_ne h.rB hb (Ne.symm hne) e.symm
  have hx := h.bx.grown hg (nB h.bx (by decide))
  have hh := h.hw
  have hbw := h.hbw
  refine ⟨⟨(h.t.grown hg (nB h.t (by decide))).far (by simp only; omega) _, (h.r.grown hg (nB h.r (by decide))).far (by simp only; omega) _, ?_, hx.set1 _, own_blk_far (h.rV.kept hg (own_own_ne h.rV h.rB (by decide))) hx (by decide), own_blk_far (h.rC.kept hg (own_own_ne h.rC h.rB (by decide))) hx (by decide),
    by rw [List.length_append]; exact own_blk_far hr hx (by decide), h.ne, ?_, h.hq, h.hbw, h.hw⟩, ?_, ?_⟩
  · exact (h.tr.grown hg (nB h.tr (by decide))).far (fun e => Blk.ne_ h.bx h.tr (by decide) e.symm) _
  · exact (h.below.grown hg h.below.size (fun j e => by have := h.rB.lt j e; omega)).setCell (p := ⟨bw, 0, none⟩) (by simp only; omega) _
  · exact ((Kept.refl _ _).grown hg (fun j e => .inl (.inr (.inr (.inr (.inr (.inr (.inr e)))))))).setCell (p := ⟨bw, 0, none⟩) (.inl (.inr (.inr (.inr (.inl rfl))))) _
  · intro k hk
    rcases hk with e | e | e | e | e | e | e
    · exact .inl (.inl e)
    · exact .inl (.inr (.inl e))
    · exact .inl (.inr (.inr (.inl e)))
    · exact .inl (.inr (.inr (.inr (.inl e))))
    · exact .inl (.inr (.inr (.inr (.inr (.inl e)))))
    · exact .inl (.inr (.inr (.inr (.inr (.inr (.inl e))))))
    · have e' : g' = k := Option.some.inj e
      rcases hat with hat | hat
      · exact .inl (.inr (.inr (.inr (.inr (.inr (.inr (by rw [hat, e'])))))))
      · have := (own_blk_far (j := 0) (u := .slice (some ⟨g', 0, none⟩) (lB.length + 1) cap) hr hx (by decide)).lt g' rfl
        exact .inr (by omega)
/-- The row of corners is longer by one. -/
theorem WkS.appC (h : WkS w base q bw g lV lC lB vV vC vB W) {u : Value} {g' cap : Nat} {k : Nat} (hg : W.grownBy W' vC.ownBlock) (hr : W'.ownsRow base 3 1 (.slice (some ⟨g', 0, none⟩) k cap) k (lC ++ [u])) (hk : k = lC.length + 1) (hat : vC.ownBlock = some g' ∨ g' = W.heap.size) :
    WkS w base q bw g lV (lC ++ [u]) lB vV (.slice (some ⟨g', 0, none⟩) k cap) vB (W'.setCell ⟨q, 2, none⟩ (.slice (some ⟨g', 0, none⟩) k cap)) ∧ Kept (OwnW w q bw vV vC vB) W (W'.setCell ⟨q, 2, none⟩ (.slice (some ⟨g', 0, none⟩) k cap)) ∧
      Anew (OwnW w q bw vV vC vB) (OwnW w q bw vV (.slice (some ⟨g', 0, none⟩) k cap) vB) W (W'.setCell ⟨q, 2, none⟩ (.slice (some ⟨g', 0, none⟩) k cap)) := by
  subst hk
  have nB : ∀ {p : Nat} {t : TypeId} {cs : Array Value}, Blk W p t cs → t ≠ 3 → some p ≠ vC.ownBlock := fun hb hne e => own_blk_ne h.rC hb (Ne.symm hne) e.symm
  have hx := h.tr.grown hg (nB h.tr (by decide))
  have hh := h.hw
  have hq := h.hq
  refine ⟨⟨(h.t.grown hg (nB h.t (by decide))).far (by simp only; omega) _, (h.r.grown hg (nB h.r (by decide))).far (by simp only; omega) _, by simpa using hx.set_ 2 (.slice (some ⟨g', 0, none⟩) (lC.length + 1) cap), (h.bx.grown hg (nB h.bx (by decide))).far (fun e => Blk.ne_ h.bx h.tr (by decide) e) _, own_blk_far (h.rV.kept hg (.inr h.ne)) hx (by decide),
    by rw [List.length_append]; exact own_blk_far hr hx (by decide), own_blk_far (h.rB.kept hg (own_own_ne h.rB h.rC (by decide))) hx (by decide), ?_, ?_, h.hq, h.hbw, h.hw⟩, ?_, ?_⟩
  · intro e
    rcases hat with hat | hat
    · exact h.ne (by rw [e, hat]; rfl)
    · have := (h.rV.lt g' (by rw [e]; rfl)).2
      omega
  · exact (h.below.grown hg h.below.size (fun j e => by have := h.rC.lt j e; omega)).setCell (p := ⟨q, 2, none⟩) (by simp only; omega) _
  · exact ((Kept.refl _ _).grown hg (fun j e => .inl (.inr (.inr (.inr (.inr (.inr (.inl e)))))))).setCell (p := ⟨q, 2, none⟩) (.inl (.inr (.inr (.inl rfl)))) _
  · intro k hk
    rcases hk with e | e | e | e | e | e | e
    · exact .inl (.inl e)
    · exact .inl (.inr (.inl e))
    · exact .inl (.inr (.inr (.inl e)))
    · exact .inl (.inr (.inr (.inr (.inl e))))
    · exact .inl (.inr (.inr (.inr (.inr (.inl e)))))
    · have e' : g' = k := Option.some.inj e
      rcases hat with hat | hat
      · exact .inl (.inr (.inr (.inr (.inr (.inr (.inl (by rw [hat, e'])))))))
      · have := (own_blk_far (j := 2) (u := .slice (some ⟨g', 0, none⟩) (lC.length + 1) cap) hr hx (by decide)).lt g' rfl
        exact .inr (by omega)
    · exact .inl (.inr (.inr (.inr (.inr (.inr (.inr e))))))
/-- The row of vertices is longer by one. -/
theorem WkS.appV (h : WkS w base q bw g lV lC lB vV vC vB W) {u : Value} {g' cap : Nat} {k : Nat} (hg : W.grownBy W' vV.ownBlock) (hr : W'.ownsRow base 3 1 (.slice (some ⟨g', 0, none⟩) k cap) k (lV ++ [u])) (hk : k = lV.length + 1) (hat : vV.ownBlock = some g' ∨ g' = W.heap.size) :
    WkS w base q bw g (lV ++ [u]) lC lB (.slice (some ⟨g', 0, none⟩) k cap) vC vB (W'.setCell ⟨q, 1, none⟩ (.slice (some ⟨g', 0, none⟩) k cap)) ∧ Kept (OwnW w q bw vV vC vB) W (W'.setCell ⟨q, 1, none⟩ (.slice (some ⟨g', 0, none⟩) k cap)) ∧
      Anew (OwnW w q bw vV vC vB) (OwnW w q bw (.slice (some ⟨g', 0, none⟩) k cap) vC vB) W (W'.setCell ⟨q, 1, none⟩ (.slice (some ⟨g', 0, none⟩) k cap)) := by
  subst hk
  have nB : ∀ {p : Nat} {t : TypeId} {cs : Array Value}, Blk W p t cs → t ≠ 3 → some p ≠ vV.ownBlock := fun hb hne e => own_blk_ne h.rV hb (Ne.symm hne) e.symm
  have hx := h.tr.grown hg (nB h.tr (by decide))
  have hh := h.hw
  have hq := h.hq
  refine ⟨⟨(h.t.grown hg (nB h.t (by decide))).far (by simp only; omega) _, (h.r.grown hg (nB h.r (by decide))).far (by simp only; omega) _, by simpa using hx.set_ 1 (.slice (some ⟨g', 0, none⟩) (lV.length + 1) cap), (h.bx.grown hg (nB h.bx (by decide))).far (fun e => Blk.ne_ h.bx h.tr (by decide) e) _,
    by rw [List.length_append]; exact own_blk_far hr hx (by decide), own_blk_far (h.rC.kept hg (.inr (Ne.symm h.ne))) hx (by decide), own_blk_far (h.rB.kept hg (own_own_ne h.rB h.rV (by decide))) hx (by decide), ?_, ?_, h.hq, h.hbw, h.hw⟩, ?_, ?_⟩
  · intro e
    rcases hat with hat | hat
    · exact h.ne (by rw [← e, hat]; rfl)
    · have := (h.rC.lt g' (by rw [← e]; rfl)).2
      omega
  · exact (h.below.grown hg h.below.size (fun j e => by have := h.rV.lt j e; omega)).setCell (p := ⟨q, 1, none⟩) (by simp only; omega) _
  · exact ((Kept.refl _ _).grown hg (fun j e => .inl (.inr (.inr (.inr (.inr (.inl e))))))).setCell (p := ⟨q, 1, none⟩) (.inl (.inr (.inr (.inl rfl)))) _
  · intro k hk
    rcases hk with e | e | e | e | e | e | e
    · exact .inl (.inl e)
    · exact .inl (.inr (.inl e))
    · exact .inl (.inr (.inr (.inl e)))
    · exact .inl (.inr (.inr (.inr (.inl e))))
    · have e' : g' = k := Option.some.inj e
      rcases hat with hat | hat
      · exact .inl (.inr (.inr (.inr (.inr (.inl (by rw [hat, e']))))))
      · have := (own_blk_far (j := 1) (u := .slice (some ⟨g', 0, none⟩) (lV.length + 1) cap) hr hx (by decide)).lt g' rfl
        exact .inr (by omega)
    · exact .inl (.inr (.inr (.inr (.inr (.inr (.inl e))))))
    · exact .inl (.inr (.inr (.inr (.inr (.inr (.inr e))))))
theorem Anew.trans {A B C : Nat → Prop} {w1 w2 w3 : World} (h : Anew A B w1 w2) (k : Anew B C w2 w3) (h1 : w1.heap.size ≤ w2.heap.size) (h2 : w2.heap.size ≤ w3.heap.size) : Anew A C w1 w3 := fun j hj => by
  rcases k j hj with e | e
  · rcases h j e with e | e
    · exact .inl e
    · exact .inr (by omega)
  · exact .inr (by omega)
theorem Kept.then {A B : Nat → Prop} {w1 w2 w3 : World} (h : Kept A w1 w2) (k : Kept B w2 w3) (hn : Anew A B w1 w2) : Kept A w1 w3 := h.frown k (fun j hj => (hn j hj).imp id (fun e => e.1))
end
end Go.Proofs.YtghlnknncahkgaaGreat
