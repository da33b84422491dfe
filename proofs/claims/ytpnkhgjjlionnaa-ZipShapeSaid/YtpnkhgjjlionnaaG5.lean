/-
  Texts joined by program, what the law uses alone: Of Eul EulB WkT BrdM Iso SurM Ran Gap ZipS Kept GenA.
-/
import Derived.Deep.Onto
import Derived.Deep.RegionHeld3
import Derived.Sort.Defs
import Derived.Lib.Slices
import Derived.BigRegion
import Derived.RegionTactic
import Derived.Lib.QuietBelow
import Derived.BigQuiet
import Derived.Test.YtpnkhgjjlionnaaG4
import Derived.Test.YtpnkhgjjlionnaaG2
import Derived.Test.YtpnkhgjjlionnaaShelf
import Derived.Test.YtpnkhgjjlionnaaG1
namespace Go.Proofs.Ytpnkhgjjlionnaa
open Go.RowKit

theorem made_ints (m : Nat) : (madeCells (Value.int .i64 0).cells (m * 1)).toList = List.replicate m (.int .i64 0) := by
  rw [Nat.mul_one]
  show (madeCells #[Value.int .i64 0] m).toList = _
  rw [toList_madeCells_one]
theorem intsV_at {out : List Int} {j : Nat} (h : j < out.length) : (intsV out)[j]? = some (.int .i64 (at_ out j)) := by
  unfold intsV at_
  rw [List.getElem?_map, List.getElem?_eq_getElem h]
  simp [List.getD, h]
theorem intsV_set (out : List Int) (j : Nat) (x : Int) : (intsV out).set j (.int .i64 x) = intsV (out.set j x) := by simp [intsV, List.map_set]
theorem fill_set (k F : Nat) (h : k < F) : (intsV (List.replicate k (-1) ++ List.replicate (F - k) 0)).set k (.int .i64 (-1)) = intsV (List.replicate (k + 1) (-1) ++ List.replicate (F - (k + 1)) 0) := by
  rw [intsV_set]
  congr 1
  apply List.ext_getElem?
  intro i
  rw [List.getElem?_set]
  by_cases e : k = i
  · subst e
    rw [if_pos rfl, if_pos (by simp; omega), List.getElem?_append_left (by simp), List.getElem?_replicate, if_pos (by omega)]
  · rw [if_neg e]
    by_cases hi : i < k
    · rw [List.getElem?_append_left (by simpa using hi), List.getElem?_append_left (by simp; omega), List.getElem?_replicate, List.getElem?_replicate, if_pos hi, if_pos (by omega)]
    · rw [List.getElem?_append_right (by simp; omega), List.getElem?_append_right (by simp; omega), List.getElem?_replicate, List.getElem?_replicate]
      simp only [List.length_replicate]
      by_cases h2 : i < F
      · rw [if_pos (by omega), if_pos (by omega)]
      · rw [if_neg (by omega), if_neg (by omega)]
set_option maxRecDepth 100000 in
set_option maxHeartbeats 4000000 in
theorem of_any (g : Nat) (N : Int) (T : List Tr) (w : World) (h : Tab w g N T) (hE : (T.flatMap edges3).Nodup) : Calls Try.prog 45 #[.pointer (some ⟨g, 0, none⟩)] w fun e w' => ∃ v out, e = .returned v ∧ w'.ownsRow w.heap.size 3 1 v T.length (intsV out) ∧ Shl T out ∧ (∀ j, j < T.length → at_ out j < T.length) ∧ Below w.heap.size w w' := by
  obtain ⟨i2, hj', hz0, hz1, hz2⟩ := info_parts infoInt
  have HT := Lib.hid h
  have H0 := Lib.hid (triangles_any g N T w h.toTabS)
  have hl := h.len
  have hgl := h.lt
  obtain ⟨F, hF⟩ : ∃ F, T.length = F := ⟨_, rfl⟩
  rw [hF] at hl H0 ⊢
  have HF := Lib.hid hF
  clear hF h
  go_enter Try.func45, Try.ntmps45
  go_wp2_with fail
  refine H0.out.mono ?_
  rintro e w0 ⟨rfl, rfl⟩
  go_wp2_with (at_make; refine wpList_make_full _ rfl (.tmp 12) (.tmp 12) 35 rfl w.heap.size 3 i2 _ 1 Try.underlying35 hj' hz0 hz1 .i64 .i64 _ _ F rfl rfl rfl rfl (by rw [hz2]; omega) (by unfold maxLen; omega) (Nat.le_refl _) ?_; intro w1 hr1 hg1)
  rw [made_ints] at hr1
  have hB1 : Below w.heap.size w w1 := (Below.refl _ _).grown hg1 (Nat.le_refl _) (fun j e => by cases e)
  clear hg1
  go_loopw [16] (fun ix wr => ∃ k : Nat, k ≤ F ∧ ix = .int .i64 k ∧ wr.ownsRow w.heap.size 3 1 (.slice (some ⟨w.heap.size, 0, none⟩) F F) F (intsV (List.replicate k (-1) ++ List.replicate (F - k) 0)) ∧ Below w.heap.size w wr) (fun ix _ => F - (intOf ix).toNat)
  case atStart => exact ⟨0, Nat.zero_le _, rfl, by simpa [intsV] using hr1, hB1⟩
  case round =>
    clear hr1 hB1
    obtain ⟨k, hk, rfl, hr, hB⟩ := hrel
    rename World => wr
    by_cases hlt : k < F
    · have hlen : (List.replicate k (-1 : Int) ++ List.replicate (F - k) 0).length = F := by simp; omega
      have hc : wr.cell? ⟨w.heap.size, k, none⟩ = some (.int .i64 (at_ (List.replicate k (-1) ++ List.replicate (F - k) 0) k)) := by rw [hr.cellAt k (by omega)]; exact intsV_at (by rw [hlen]; exact hlt)
      have hf := hr.frozenAt k
      have hk3 : (k : Int) < (F : Int) := by omega
      have hsz := hB.size
      have hst := hr.stored k (.int .i64 (-1))
      rw [fill_set k F hlt] at hst
      have HST := Lib.hid hst
      have HB := Lib.hid hB
      clear hr hB hlen hst
      go_wp2
      go_roundw
      case measure => simp [intOf]; omega
      case rel => exact ⟨k + 1, by omega, by go_num, HST.out.1, HB.out.grown HST.out.2 hsz (fun j e => by cases e; exact Nat.le_refl _)⟩
    · obtain rfl : k = F := by omega
      have hI : OfInv T 0 0 (List.replicate T.length (-1)) := OfInv.start T
      rw [HF.out] at hI
      have hr' : wr.ownsRow w.heap.size 3 1 (.slice (some ⟨w.heap.size, 0, none⟩) k k) k (intsV (List.replicate k (-1))) := by simpa using hr
      have HI := Lib.hid hI
      have HR := Lib.hid hr'
      have HB := Lib.hid hB
      clear hr hB hr' hI
      go_wp2
      go_loopw [5, 25] (fun v5 ix wr => ∃ (f n : Nat) (out : List Int), f ≤ k ∧ n ≤ f ∧ ix = .int .i64 f ∧ v5 = .int .i64 n ∧ wr.ownsRow w.heap.size 3 1 (.slice (some ⟨w.heap.size, 0, none⟩) k k) k (intsV out) ∧ OfInv T f n out ∧ Below w.heap.size w wr) (fun _ ix _ => k - (intOf ix).toNat)
      case atStart => exact ⟨0, 0, _, Nat.zero_le _, Nat.le_refl _, rfl, rfl, HR.out, HI.out, HB.out⟩
      case round =>
        rename World => wz
        clear HR HI HB
        obtain ⟨f, n, out, hf, hnf, rfl, rfl, hr, hI, hB⟩ := hrel
        by_cases hlt2 : f < k
        · have hol : out.length = k := by rw [hI.len, HF.out]
          have hc : wz.cell? ⟨w.heap.size, f, none⟩ = some (.int .i64 (at_ out f)) := by rw [hr.cellAt f (by omega)]; exact intsV_at (by rw [hol]; exact hlt2)
          have hfz := hr.frozenAt f
          have hf3 : (f : Int) < (k : Int) := by omega
          have hsz := hB.size
          by_cases h0 : 0 ≤ at_ out f
          · have hd : decide (0 ≤ at_ out f) = true := by simpa using h0
            have hI2 := hI.skip h0
            have HI2 := Lib.hid hI2
            have HR := Lib.hid hr
            have HB := Lib.hid hB
            generalize at_ out f = z at *
            clear hI hI2 hr hB hol
            go_wp2
            go_roundw
            case measure => simp [intOf]; omega
            case rel => exact ⟨f + 1, n, out, by omega, by omega, by go_num, rfl, HR.out, HI2.out, HB.out⟩
          · have hd : decide (0 ≤ at_ out f) = false := by simpa using h0
            have hbf := hI.begin_ (by rw [HF.out]; exact hlt2) (by omega)
            have Hbf := Lib.hid hbf
            have hst := hr.stored f (.int .i64 (n : Int))
            rw [intsV_set] at hst
            have HST := Lib.hid hst
            have HI := Lib.hid hI
            have HB := Lib.hid hB
            have hgo := (hr.lt _ rfl).2
            have hW0 : ((wz.setCell ⟨w.heap.size, f, none⟩ (.int .i64 (n : Int))).alloc (.cells #[.int .i64 f] 3)).ownsRow wz.heap.size 3 1 (.slice (some ⟨wz.heap.size, 0, none⟩) 1 1) 1 (intsV (nats [f])) := by
              have := World.ownsRow_lit (wz.setCell ⟨w.heap.size, f, none⟩ (.int .i64 (n : Int))) (base := wz.heap.size) (e := 3) (size := 1) #[.int .i64 (f : Int)] 1 (by simp) (by decide) rfl
              simpa [intsV, nats] using this
            have HW0 := Lib.hid hW0
            generalize at_ out f = z at *
            clear hI hbf hr hB hol hst hW0
            go_wp2
            go_loopw [7, 8] (fun v7 i8 wy => ∃ (v' : Value) (W : List Nat) (out' : List Int) (i : Nat), v' = v7 ∧ i ≤ W.length ∧ i8 = .int .i64 i ∧ wy.ownsRow wz.heap.size 3 1 v' W.length (intsV (nats W)) ∧ wy.ownsRow w.heap.size 3 1 (.slice (some ⟨w.heap.size, 0, none⟩) k k) k (intsV out') ∧ OfBfs T f n out W out' i 0 ∧ Below w.heap.size w wy) (fun _ i8 _ => k + 1 - (intOf i8).toNat)
            case atStart =>
              exact ⟨_, [f], _, 0, rfl, by simp, rfl, HW0.out, HST.out.1.alloc _, Hbf.out, (HB.out.grown HST.out.2 hsz (fun j e => by cases e; exact Nat.le_refl _)).alloc (by simp; exact hsz) _⟩
            case round =>
              rename World => wy
              clear HST Hbf HW0 hc hfz
              obtain ⟨v7, W, out', i, rfl, hi, rfl, hW, hr, hbf, hB⟩ := hrel
              have hwl := hbf.wl
              rw [HF.out] at hwl
              obtain ⟨L, hL⟩ : ∃ L, W.length = L := ⟨_, rfl⟩
              have HL := Lib.hid hL
              rw [hL] at hi hW hwl
              clear hL
              by_cases hiL : i < L
              · obtain ⟨u, hu⟩ : ∃ u, W[i]? = some u := ⟨W[i]'(by have := HL.out; omega), List.getElem?_eq_getElem _⟩
                have hul := hbf.lt u (List.mem_of_getElem? hu)
                rw [HF.out] at hul
                obtain ⟨aw, cw, rfl⟩ := ownsRow_slice hW
                have Hu := Lib.hid hu
                have HW := Lib.hid hW
                have HR := Lib.hid hr
                have HBF := Lib.hid hbf
                have HBy := Lib.hid hB
                have hi3 : (i : Int) < (L : Int) := by omega
                clear hu hW hr hbf hB
                go_wp2
                go_loopw [7, 45] (fun v7 k4 wx => ∃ (v' : Value) (W : List Nat) (out' : List Int) (q : Nat), v' = v7 ∧ q ≤ 3 ∧ k4 = .int .i64 q ∧ wx.ownsRow wz.heap.size 3 1 v' W.length (intsV (nats W)) ∧ wx.ownsRow w.heap.size 3 1 (.slice (some ⟨w.heap.size, 0, none⟩) k k) k (intsV out') ∧ OfBfs T f n out W out' i q ∧ W[i]? = some u ∧ Below w.heap.size w wx) (fun _ k4 _ => 3 - (intOf k4).toNat)
                case atStart => exact ⟨_, W, out', 0, rfl, by omega, rfl, by rw [HL.out]; exact HW.out, HR.out, HBF.out, Hu.out, HBy.out⟩
                case round =>
                  rename World => wx
                  clear HW HR HBF HBy Hu HL hi3 hiL hi hwl
                  clear W out'
                  obtain ⟨v7, W, out', q, rfl, hq, rfl, hW, hr, hbf, hu, hB⟩ := hrel
                  have hwl := hbf.wl
                  rw [HF.out] at hwl
                  have hiL := (List.getElem?_eq_some_iff.1 hu).1
                  by_cases hq3 : q < 3
                  · obtain ⟨gw, cw', rfl, hgw1, hgw2⟩ := hW.form (by omega)
                    have hcw := hW.cellAt i (by omega)
                    rw [show (intsV (nats W))[i]? = some (.int .i64 (u : Int)) from by simp [intsV, nats, hu]] at hcw
                    have hsx := hB.size
                    have HO := Lib.hid (opp_any g N (3 * (u : Int) + (q : Int)) T wx (HT.out.below (hB.mono (Nat.le_refl _))))
                    obtain ⟨L2, hL2⟩ : ∃ L2, W.length = L2 := ⟨_, rfl⟩
                    rw [hL2] at hW hiL hwl ⊢
                    have HL2 := Lib.hid hL2
                    have hi3 : (i : Int) < (L2 : Int) := by omega
                    have hq0 : (q : Int) < 3 := by omega
                    have hqn : (0 : Int) ≤ (q : Int) := by omega
                    have hu0 : (0 : Int) ≤ (u : Int) := by omega
                    have hu1 : (u : Int) ≤ 8192 := by omega
                    have ecast : (3 * (u : Int) + (q : Int)) = ((3 * u + q : Nat) : Int) := by push_cast; rfl
                    have HEC := Lib.hid ecast
                    have HW := Lib.hid hW
                    have HR := Lib.hid hr
                    have HBF := Lib.hid hbf
                    have HU := Lib.hid hu
                    have HBx := Lib.hid hB
                    clear hW hr hbf hu hB hL2 ecast
                    rcases opp_cases T ((3 * u + q : Nat) : Int) with ho | ⟨o, ho, hol⟩
                    · rw [HEC.out, ho] at HO
                      have Hs := Lib.hid (HBF.out.step0 HU.out (fun o e => by rw [ho] at e; omega))
                      clear ho
                      go_wp2_with fail
                      rw [HEC.out]
                      refine HO.out.mono ?_
                      rintro e w2 ⟨rfl, hb2⟩
                      have HB2 := Lib.hid hb2
                      clear hb2 hcw
                      go_wp2
                      go_roundw
                      case measure => simp [intOf]; omega
                      case rel => exact ⟨_, W, out', q + 1, rfl, by omega, by go_num, by rw [HL2.out]; exact own_below HW.out HB2.out, own_below HR.out HB2.out, Hs.out, HU.out, HBx.out.trans (HB2.out.mono hsx)⟩
                    · rw [HEC.out, ho] at HO
                      rw [HF.out] at hol
                      obtain ⟨t, ht⟩ : ∃ t, o / 3 = t := ⟨_, rfl⟩
                      have e1 : (o : Int) / 3 = (t : Int) := by omega
                      have htk : t < k := by omega
                      have ht3 : (t : Int) < (k : Int) := by omega
                      have ht0 : (0 : Int) ≤ (t : Int) := by omega
                      have ho0 : (0 : Int) ≤ (o : Int) := by omega
                      have ho1 : (o : Int) ≤ 100000 := by omega
                      have hd0 : decide (0 ≤ (o : Int)) = true := by simp
                      have holn : out'.length = k := by rw [HBF.out.len, HF.out]
                      have hco : wx.cell? ⟨w.heap.size, t, none⟩ = some (.int .i64 (at_ out' t)) := by rw [HR.out.cellAt t (by omega)]; exact intsV_at (by rw [holn]; exact htk)
                      have Hho := Lib.hid ho
                      have Hht := Lib.hid ht
                      have hgx := (HR.out.lt _ rfl).2
                      by_cases hneg : at_ out' t < 0
                      · have hd1 : decide (at_ out' t < 0) = true := by simpa using hneg
                        have Hs := Lib.hid (HBF.out.add HI.out HU.out hq3 ho (by rw [ht]; exact hneg))
                        rw [ht] at Hs
                        generalize at_ out' t = z at *
                        have c6 : L2 + 1 ≤ maxLen := by unfold maxLen; omega
                        have c7 : (L2 + 1) * 8 ≤ 140737488355328 := by omega
                        clear ho ht hneg holn
                        go_wp2_with fail
                        rw [HEC.out]
                        refine HO.out.mono ?_
                        rintro e w2 ⟨rfl, hb2⟩
                        have hco2 := (hb2.cell (p := ⟨w.heap.size, t, none⟩) hgx).trans hco
                        have hR2 := own_below HR.out hb2
                        have hfo2 := hR2.frozenAt t
                        have hst := hR2.stored t (.int .i64 (n : Int))
                        rw [intsV_set] at hst
                        have HST := Lib.hid hst
                        have hW2 := own_below HW.out hb2
                        have hgo2 := (hR2.lt _ rfl).2
                        have hW3 := hW2.kept hst.2 (.inr (by simp [Value.ownBlock]; omega))
                        have HB2 := Lib.hid hb2
                        have hsz2 := hb2.size
                        clear hb2 hcw hco hR2 hst hW2
                        go_wp2_with (at_builtin; refine wpList_append_lies _ rfl (.tmp 72) (.tmp 75) 35 rfl wz.heap.size 3 i2 _ 1 8 Try.underlying35 hj' hz0 hz1 hz2 rfl (by decide) _ L2 (intsV (nats W)) rfl (hW3.alloc _) ⟨w2.heap.size, 0, none⟩ 1 1 [.int .i64 t] rfl rfl (World.news_of_block (by have := heap_alloc_new (w2.setCell ⟨w.heap.size, t, none⟩ (.int .i64 (n : Int))) (.cells #[.int .i64 (t : Int)] 3); simpa using this)) (by simp [Value.oneCell']) (by decide) c6 c7 (by simp; omega) (w2.heap.size + 1) (by simp) ?_; intro g6 cap6 W6 hr6 hg6 hat6 _)
                        go_roundw
                        case measure => simp [intOf]; omega
                        case rel =>
                          have hO3 := (HST.out.1.alloc (.cells #[.int .i64 (t : Int)] 3)).kept hg6 (.inr (show some w.heap.size ≠ some gw from by simp; omega))
                          have hB3 := (((HBx.out.trans (HB2.out.mono hsx)).grown HST.out.2 (by omega) (fun j e => by cases e; exact Nat.le_refl _)).alloc (by simp; omega) (.cells #[.int .i64 (t : Int)] 3)).grown hg6 (by simp; omega) (fun j e => by have := (hW3.lt j e).1; omega)
                          refine ⟨_, W ++ [t], _, q + 1, rfl, by omega, by go_num, ?_, hO3, Hs.out, ?_, hB3⟩
                          · have hl3 : (W ++ [t]).length = L2 + 1 := by simp [HL2.out]
                            rw [hl3]
                            simpa [intsV, nats] using hr6
                          · rw [List.getElem?_append_left (by rw [HL2.out]; exact hiL)]
                            exact HU.out
                      · have hd1 : decide (at_ out' t < 0) = false := by simpa using hneg
                        have Hs := Lib.hid (HBF.out.step0 HU.out (fun o' e => by
                          rw [ho] at e
                          have : o = o' := by omega
                          subst this
                          exact HBF.out.old_in hE HI.out HU.out hq3 ho (by rw [ht]; omega)))
                        generalize at_ out' t = z at *
                        clear ho ht hneg holn
                        go_wp2_with fail
                        rw [HEC.out]
                        refine HO.out.mono ?_
                        rintro e w2 ⟨rfl, hb2⟩
                        have hco2 := (hb2.cell (p := ⟨w.heap.size, t, none⟩) hgx).trans hco
                        have HB2 := Lib.hid hb2
                        have hgo2 := (own_below HR.out hb2).lt _ rfl
                        clear hb2 hcw hco
                        go_wp2
                        go_roundw
                        case measure => simp [intOf]; omega
                        case rel => exact ⟨_, W, out', q + 1, rfl, by omega, by go_num, by rw [HL2.out]; exact own_below HW.out HB2.out, own_below HR.out HB2.out, Hs.out, HU.out, HBx.out.trans (HB2.out.mono hsx)⟩
                  · obtain rfl : q = 3 := by omega
                    have Hs := Lib.hid hbf.next
                    have HW := Lib.hid hW
                    have HR := Lib.hid hr
                    have HBx := Lib.hid hB
                    clear hbf hW hr hB hu
                    go_wp2
                    go_roundw
                    case measure => simp [intOf]; omega
                    case rel => exact ⟨v7, W, out', i + 1, rfl, by omega, by go_num, HW.out, HR.out, Hs.out, HBx.out⟩
              · obtain rfl : i = L := by omega
                have hfin := hbf
                rw [← HL.out] at hfin
                have Hs := Lib.hid (hfin.finish HI.out (by rw [HF.out]; exact hlt2))
                obtain ⟨aw, cw, rfl⟩ := ownsRow_slice hW
                have HR := Lib.hid hr
                have HBx := Lib.hid hB
                have hn0 : (n : Int) ≤ 8192 := by omega
                clear hbf hfin hW hr hB
                go_wp2
                go_roundw
                case measure => simp [intOf]; omega
                case rel => exact ⟨f + 1, n + 1, out', by omega, by omega, by go_num, by go_num, HR.out, Hs.out, HBx.out⟩
        · obtain rfl : f = k := by omega
          have hfi := OfInv.finish (by rw [HF.out]; exact hI)
          have HFI := Lib.hid hfi
          have HR := Lib.hid hr
          have HB := Lib.hid hB
          clear hfi hI hr hB
          go_wp2
          go_ret
          exact ⟨_, out, rfl, HR.out, HFI.out.1, fun j hj => by have := HFI.out.2.2 j (by rw [HF.out]; exact hj); omega, HB.out⟩
def cntL (out : List Int) : Int := out.foldl (fun n k => max n (k + 1)) 0
theorem cntL_take {out : List Int} {j : Nat} (h : j < out.length) : cntL (out.take (j + 1)) = max (cntL (out.take j)) (at_ out j + 1) := by
  unfold cntL
  rw [List.take_succ_eq_append_getElem h, List.foldl_append]
  simp [at_, List.getD, h]
theorem cntL_bd {out : List Int} {m : Int} (h : ∀ j, j < out.length → at_ out j < m) (hm : 0 ≤ m) : ∀ j, j ≤ out.length → 0 ≤ cntL (out.take j) ∧ cntL (out.take j) ≤ m
  | 0, _ => by simp [cntL]; omega
  | j + 1, hj => by
    have ih := cntL_bd h hm j (by omega)
    have := h j (by omega)
    rw [cntL_take (by omega)]
    omega
set_option maxRecDepth 100000 in
set_option maxHeartbeats 1000000 in
theorem count_any (g : Nat) (N : Int) (T : List Tr) (w : World) (h : Tab w g N T) (hE : (T.flatMap edges3).Nodup) : Calls Try.prog 46 #[.pointer (some ⟨g, 0, none⟩)] w fun e w' => ∃ out, e = .returned (.int .i64 (cntL out)) ∧ Shl T out ∧ (∀ j, j < T.length → at_ out j < T.length) ∧ Below w.heap.size w w' := by
  have H0 := Lib.hid (of_any g N T w h hE)
  have hl := h.len
  obtain ⟨F, hF⟩ : ∃ F, T.length = F := ⟨_, rfl⟩
  rw [hF] at hl H0 ⊢
  have HF := Lib.hid hF
  clear hF h
  go_enter Try.func46, Try.ntmps46
  go_wp2_with fail
  refine H0.out.mono ?_
  rintro e w1 ⟨v, out, rfl, hr, hS, hlt, hb⟩
  obtain ⟨av, cv, rfl⟩ := ownsRow_slice hr
  have hol : out.length = F := by rw [hS.len, HF.out]
  have hbd := cntL_bd (out := out) (m := (F : Int)) (fun j hj => hlt j (by omega)) (by omega)
  have HOL := Lib.hid hol
  have HBD := Lib.hid hbd
  have HR := Lib.hid hr
  have HS := Lib.hid hS
  have HLT := Lib.hid hlt
  clear hol hbd hr hS hlt H0
  go_wp2
  go_loop [3, 9] (fun n i => ∃ j : Nat, j ≤ F ∧ i = .int .i64 j ∧ n = .int .i64 (cntL (out.take j))) (fun _ i => F - (intOf i).toNat)
  case atStart => exact ⟨0, Nat.zero_le _, rfl, by simp [cntL]⟩
  case round =>
    obtain ⟨j, hj, rfl, rfl⟩ := hrel
    by_cases hjF : j < F
    · obtain ⟨g0, cap, e0, hg1, hg2⟩ := HR.out.form (by omega)
      cases e0
      have hc := HR.out.cellAt j (by omega)
      rw [intsV_at (by rw [HOL.out]; exact hjF)] at hc
      have Hst := Lib.hid (cntL_take (out := out) (j := j) (by rw [HOL.out]; exact hjF))
      obtain ⟨b0, b1⟩ := HBD.out j (by rw [HOL.out]; exact hj)
      obtain ⟨b2, b3⟩ := HBD.out (j + 1) (by rw [HOL.out]; exact hjF)
      have hk1 := HLT.out j hjF
      have hk0 := HS.out.nn j (by rw [HF.out]; exact hjF)
      rw [Hst.out] at b2 b3
      have hj3 : (j : Int) < (F : Int) := by omega
      generalize cntL (out.take j) = z at *
      generalize at_ out j = y at *
      go_wp2
      go_round
      case measure => simp [intOf]; omega
      case rel => exact ⟨j + 1, by omega, by go_num, by rw [Hst.out]⟩
    · obtain rfl : j = F := by omega
      have e : out.take j = out := List.take_of_length_le (by rw [HOL.out]; omega)
      have HE := Lib.hid e
      clear e
      go_wp2
      go_ret
      exact ⟨out, by rw [HE.out]; rfl, HS.out, HLT.out, hb⟩
end Go.Proofs.Ytpnkhgjjlionnaa
namespace Go.Proofs.Ytpnkhgjjlionnaa
namespace Jor

def Rot (π : Nat → Nat) (C : List Nat) : Prop := ∃ c r, C = c :: r ∧ C.map π = r ++ [c]
theorem Rot.turn {π : Nat → Nat} {x y : List Nat} (h : Rot π (x ++ y)) : Rot π (y ++ x) := by
  cases y with
  | nil => simpa using h
  | cons d y' =>
    cases x with
    | nil => simpa using h
    | cons c x' =>
      obtain ⟨c', r, e, hm⟩ := h
      simp only [List.cons_append, List.cons.injEq] at e
      obtain ⟨rfl, rfl⟩ := e
      have hm' : (c :: x').map π ++ (d :: y').map π = (x' ++ [d]) ++ (y' ++ [c]) := by
        rw [← List.map_append]
        simpa using hm
      obtain ⟨h1, h2⟩ := List.append_inj hm' (by simp)
      exact ⟨d, y' ++ c :: x', rfl, by rw [List.map_append, h1, h2]; simp⟩
/-- A round whose last one is a. -/
theorem Rot.last {π : Nat → Nat} {C : List Nat} (h : Rot π C) {a : Nat} (ha : a ∈ C) : ∃ p, Rot π (p ++ [a]) ∧ (p ++ [a]).Perm C := by
  obtain ⟨x, y, rfl⟩ := List.append_of_mem ha
  have h' : Rot π ((x ++ [a]) ++ y) := by simpa using h
  refine ⟨y ++ x, by simpa using h'.turn, ?_⟩
  have : (y ++ (x ++ [a])).Perm ((x ++ [a]) ++ y) := List.perm_append_comm
  simpa using this
/-- Two, one behind the other, at b and at a: apart, where the images of a and b are exchanged. -/
def swp2 (π : Nat → Nat) (a b : Nat) : Nat → Nat := fun x => if x = a then π b else if x = b then π a else π x
theorem swp2_off {π : Nat → Nat} {a b : Nat} {l : List Nat} (ha : a ∉ l) (hb : b ∉ l) : l.map (swp2 π a b) = l.map π := by
  refine List.map_congr_left fun x hx => ?_
  unfold swp2
  rw [if_neg (fun e => ha (by rw [← e]; exact hx)), if_neg (fun e => hb (by rw [← e]; exact hx))]
theorem swp2_a (π : Nat → Nat) (a b : Nat) : swp2 π a b a = π b := by simp [swp2]
theorem swp2_b (π : Nat → Nat) (a b : Nat) : swp2 π a b b = π a := by
  unfold swp2
  by_cases e : b = a
  · rw [if_pos e, e]
  · rw [if_neg e, if_pos rfl]
/-- What a list that ends in a is made of. -/
theorem snoc_head (p : List Nat) (a : Nat) : ∃ c r, p ++ [a] = c :: r := by
  cases p with
  | nil => exact ⟨a, [], rfl⟩
  | cons c r => exact ⟨c, r ++ [a], rfl⟩
theorem Rot.snoc {π : Nat → Nat} {p : List Nat} {a c : Nat} {r : List Nat} (e : p ++ [a] = c :: r) : Rot π (p ++ [a]) ↔ p.map π ++ [π a] = r ++ [c] := by
  constructor
  · rintro ⟨c', r', e', h⟩
    rw [e] at e'
    injection e' with e1 e2
    subst e1
    subst e2
    simpa using h
  · intro h
    exact ⟨c, r, e, by simpa using h⟩
theorem Rot.snoc2 {π : Nat → Nat} {p q : List Nat} {a b c d : Nat} {r s : List Nat} (e : p ++ [a] = c :: r) (f : q ++ [b] = d :: s) : Rot π ((p ++ [a]) ++ (q ++ [b])) ↔ p.map π ++ [π a] = r ++ [d] ∧ q.map π ++ [π b] = s ++ [c] := by
  have hr : p.length = r.length := by have := congrArg List.length e; simpa using this
  constructor
  · rintro ⟨c', r', e', h⟩
    rw [e, f] at e'
    simp only [List.cons_append, List.cons.injEq] at e'
    obtain ⟨rfl, rfl⟩ := e'
    have h' : (p.map π ++ [π a]) ++ (q.map π ++ [π b]) = (r ++ [d]) ++ (s ++ [c]) := by simpa using h
    exact List.append_inj h' (by simp [hr])
  · rintro ⟨h1, h2⟩
    refine ⟨c, r ++ d :: s, by rw [e, f]; rfl, ?_⟩
    have : ((p ++ [a]) ++ (q ++ [b])).map π = (p.map π ++ [π a]) ++ (q.map π ++ [π b]) := by simp
    rw [this, h1, h2]
    simp
theorem Rot.split {π : Nat → Nat} {p q : List Nat} {a b : Nat} (hn : ((p ++ [b]) ++ (q ++ [a])).Nodup) (h : Rot π ((p ++ [b]) ++ (q ++ [a]))) : Rot (swp2 π a b) (p ++ [b]) ∧ Rot (swp2 π a b) (q ++ [a]) := by
  obtain ⟨c, r, e⟩ := snoc_head p b
  obtain ⟨d, s, f⟩ := snoc_head q a
  obtain ⟨h1, h2⟩ := (Rot.snoc2 e f).1 h
  simp only [List.nodup_append, List.mem_append, List.mem_singleton, List.append_assoc] at hn
  have u1 : a ∉ p ∧ b ∉ p ∧ a ∉ q ∧ b ∉ q := by grind
  have hp : p.map π = r := (List.append_inj' h1 rfl).1
  have hb : π b = d := by simpa using (List.append_inj' h1 rfl).2
  have hq : q.map π = s := (List.append_inj' h2 rfl).1
  have ha : π a = c := by simpa using (List.append_inj' h2 rfl).2
  refine ⟨(Rot.snoc e).2 ?_, (Rot.snoc f).2 ?_⟩
  · rw [swp2_off u1.1 u1.2.1, swp2_b, hp, ha]
  · rw [swp2_off u1.2.2.1 u1.2.2.2, swp2_a, hq, hb]
theorem Rot.join {π : Nat → Nat} {p q : List Nat} {a b : Nat} (hn : ((p ++ [a]) ++ (q ++ [b])).Nodup) (h : Rot π (p ++ [a])) (h' : Rot π (q ++ [b])) : Rot (swp2 π a b) ((p ++ [a]) ++ (q ++ [b])) := by
  obtain ⟨c, r, e⟩ := snoc_head p a
  obtain ⟨d, s, f⟩ := snoc_head q b
  have h1 := (Rot.snoc e).1 h
  have h2 := (Rot.snoc f).1 h'
  simp only [List.nodup_append, List.mem_append, List.mem_singleton, List.append_assoc] at hn
  have u1 : a ∉ p ∧ b ∉ p ∧ a ∉ q ∧ b ∉ q := by grind
  have hp : p.map π = r := (List.append_inj' h1 rfl).1
  have ha : π a = c := by simpa using (List.append_inj' h1 rfl).2
  have hq : q.map π = s := (List.append_inj' h2 rfl).1
  have hb : π b = d := by simpa using (List.append_inj' h2 rfl).2
  refine (Rot.snoc2 e f).2 ⟨?_, ?_⟩
  · rw [swp2_off u1.1 u1.2.1, swp2_a, hp, hb]
  · rw [swp2_off u1.2.2.1 u1.2.2.2, swp2_b, hq, ha]
theorem Rot.other {π : Nat → Nat} {C : List Nat} {a b : Nat} (ha : a ∉ C) (hb : b ∉ C) (h : Rot π C) : Rot (swp2 π a b) C := by
  obtain ⟨c, r, e, hm⟩ := h
  exact ⟨c, r, e, by rw [swp2_off ha hb]; exact hm⟩
/-- All rounds of a permutation of the first n. -/
structure Rounds (π : Nat → Nat) (n : Nat) (Cs : List (List Nat)) : Prop where
  rot : ∀ C ∈ Cs, Rot π C
  nd : Cs.flatten.Nodup
  all : ∀ x, x ∈ Cs.flatten ↔ x < n
theorem Rounds.perm {π : Nat → Nat} {n : Nat} {Cs Ds : List (List Nat)} (h : Rounds π n Cs) (rot : ∀ C ∈ Ds, Rot π C) (p : Ds.flatten.Perm Cs.flatten) : Rounds π n Ds :=
  ⟨rot, p.nodup_iff.2 h.nd, fun x => (p.mem_iff).trans (h.all x)⟩
theorem flatten_perm {Cs Ds : List (List Nat)} (h : Cs.Perm Ds) : Cs.flatten.Perm Ds.flatten := by
  induction h with
  | nil => exact List.Perm.refl _
  | cons x _ ih => simpa using ih.append_left x
  | swap x y l =>
    simp only [List.flatten_cons, ← List.append_assoc]
    exact List.Perm.append_right _ List.perm_append_comm
  | trans _ _ i1 i2 => exact i1.trans i2
/-- One round ahead, turned so that a is its last one. -/
theorem Rounds.front {π : Nat → Nat} {n : Nat} {Cs : List (List Nat)} (h : Rounds π n Cs) {a : Nat} (ha : a < n) : ∃ p Ds, Rounds π n ((p ++ [a]) :: Ds) ∧ Ds.length + 1 = Cs.length := by
  obtain ⟨C, hC, haC⟩ := List.mem_flatten.1 ((h.all a).2 ha)
  obtain ⟨s, t, rfl⟩ := List.append_of_mem hC
  obtain ⟨p, hp1, hp2⟩ := (h.rot C hC).last haC
  refine ⟨p, s ++ t, h.perm ?_ ?_, by simp; omega⟩
  · intro X hX
    rcases List.mem_cons.1 hX with rfl | hX
    · exact hp1
    · refine h.rot X ?_
      rcases List.mem_append.1 hX with hX | hX
      · exact List.mem_append_left _ hX
      · exact List.mem_append_right _ (List.mem_cons_of_mem _ hX)
  · have p1 : ((p ++ [a]) :: (s ++ t)).flatten.Perm (C :: (s ++ t)).flatten := by
      simp only [List.flatten_cons]
      exact hp2.append_right _
    exact p1.trans (flatten_perm List.perm_middle.symm)
/-- An exchange splits a round, or joins two. -/
theorem Rounds.swap {π : Nat → Nat} {n : Nat} {Cs : List (List Nat)} (h : Rounds π n Cs) {a b : Nat} (ha : a < n) (hb : b < n) (hab : a ≠ b) : ∃ Ds, Rounds (swp2 π a b) n Ds ∧ (Ds.length + Cs.length) % 2 = 1 := by
  obtain ⟨p, Ds, hD, hl⟩ := h.front ha
  have hnd := hD.nd
  rw [List.flatten_cons] at hnd
  by_cases hbp : b ∈ p
  · obtain ⟨x, y, rfl⟩ := List.append_of_mem hbp
    have hr := hD.rot _ (List.mem_cons_self ..)
    have e1 : (x ++ b :: y) ++ [a] = (x ++ [b]) ++ (y ++ [a]) := by simp
    have hn1 : ((x ++ [b]) ++ (y ++ [a])).Nodup := by rw [← e1]; exact (List.nodup_append.1 hnd).1
    rw [e1] at hr
    obtain ⟨s1, s2⟩ := Rot.split hn1 hr
    refine ⟨(x ++ [b]) :: (y ++ [a]) :: Ds, ⟨?_, ?_, ?_⟩, by simp only [List.length_cons]; omega⟩
    · intro X hX
      rcases List.mem_cons.1 hX with rfl | hX
      · exact s1
      · rcases List.mem_cons.1 hX with rfl | hX
        · exact s2
        · have hx : ∀ z ∈ X, z ∉ (x ++ b :: y) ++ [a] := fun z hz hm => (List.nodup_append.1 hnd).2.2 z hm z (List.mem_flatten.2 ⟨X, hX, hz⟩) rfl
          exact Rot.other (fun m => hx a m (by simp)) (fun m => hx b m (by simp)) (hD.rot X (List.mem_cons_of_mem _ hX))
    · simpa using hnd
    · intro z
      rw [← hD.all z]
      simp
  · have hbD : b ∈ Ds.flatten := by
      have := (hD.all b).2 hb
      rw [List.flatten_cons, List.mem_append, List.mem_append, List.mem_singleton] at this
      rcases this with (h1 | h1) | h1
      · exact absurd h1 hbp
      · exact absurd h1.symm hab
      · exact h1
    obtain ⟨C, hC, hbC⟩ := List.mem_flatten.1 hbD
    obtain ⟨s, t, rfl⟩ := List.append_of_mem hC
    obtain ⟨q, hq1, hq2⟩ := (hD.rot C (List.mem_cons_of_mem _ hC)).last hbC
    have pm : (((p ++ [a]) ++ (q ++ [b])) :: (s ++ t)).flatten.Perm ((p ++ [a]) :: (s ++ C :: t)).flatten := by
      simp only [List.flatten_cons, List.append_assoc]
      refine List.Perm.append_left p (List.Perm.append_left [a] ?_)
      have p1 : (q ++ ([b] ++ (s ++ t).flatten)).Perm (C :: (s ++ t)).flatten := by
        rw [List.flatten_cons, ← List.append_assoc]
        exact hq2.append_right _
      exact p1.trans (flatten_perm List.perm_middle.symm)
    have hnd2 : (((p ++ [a]) ++ (q ++ [b])) :: (s ++ t)).flatten.Nodup := pm.nodup_iff.2 hD.nd
    rw [List.flatten_cons] at hnd2
    refine ⟨((p ++ [a]) ++ (q ++ [b])) :: (s ++ t), ⟨?_, by rw [List.flatten_cons]; exact hnd2, fun z => pm.mem_iff.trans (hD.all z)⟩, by simp only [List.length_cons, List.length_append] at hl ⊢; omega⟩
    intro X hX
    rcases List.mem_cons.1 hX with rfl | hX
    · exact Rot.join (List.nodup_append.1 hnd2).1 (hD.rot _ (List.mem_cons_self ..)) hq1
    · have hx : ∀ z ∈ X, z ∉ (p ++ [a]) ++ (q ++ [b]) := fun z hz hm => (List.nodup_append.1 hnd2).2.2 z hm z (List.mem_flatten.2 ⟨X, hX, hz⟩) rfl
      refine Rot.other (fun m => hx a m (by simp)) (fun m => hx b m (by simp)) (hD.rot X (List.mem_cons_of_mem _ ?_))
      rcases List.mem_append.1 hX with hX | hX
      · exact List.mem_append_left _ hX
      · exact List.mem_append_right _ (List.mem_cons_of_mem _ hX)
theorem Rounds.congr {π ρ : Nat → Nat} {n : Nat} {Cs : List (List Nat)} (h : Rounds π n Cs) (e : ∀ x, x < n → ρ x = π x) : Rounds ρ n Cs :=
  ⟨fun C hC => by
    obtain ⟨c, r, e1, hm⟩ := h.rot C hC
    refine ⟨c, r, e1, ?_⟩
    rw [← hm]
    exact List.map_congr_left fun x hx => e x ((h.all x).1 (List.mem_flatten.2 ⟨C, hC, hx⟩)), h.nd, h.all⟩
end Jor
end Go.Proofs.Ytpnkhgjjlionnaa
namespace Go.Proofs.Ytpnkhgjjlionnaa
namespace Jor
section
variable {F N : Nat} {opp vert : Nat → Nat}

theorem faces_rounds : ∀ F, Rounds pv (3 * F) ((List.range F).map fun i => [3 * i, 3 * i + 2, 3 * i + 1]) := by
  intro F
  have all : ∀ F x, x ∈ ((List.range F).map fun i => [3 * i, 3 * i + 2, 3 * i + 1]).flatten ↔ x < 3 * F := by
    intro F x
    simp only [List.mem_flatten, List.mem_map, List.mem_range]
    constructor
    · rintro ⟨_, ⟨i, hi, rfl⟩, hx⟩
      simp only [List.mem_cons, List.not_mem_nil, or_false] at hx
      omega
    · intro h
      refine ⟨_, ⟨x / 3, by omega, rfl⟩, ?_⟩
      simp only [List.mem_cons, List.not_mem_nil, or_false]
      omega
  refine ⟨?_, ?_, all F⟩
  · intro C hC
    obtain ⟨i, hi, rfl⟩ := List.mem_map.1 hC
    refine ⟨_, _, rfl, ?_⟩
    simp only [List.map_cons, List.map_nil, List.cons_append, List.nil_append, List.cons.injEq, and_true]
    unfold pv
    omega
  · induction F with
    | zero => simp
    | succ F ih =>
      rw [List.range_succ, List.map_append, List.flatten_append, List.nodup_append]
      refine ⟨ih, by simp, ?_⟩
      intro a ha b hb
      have := (all F a).1 ha
      simp only [List.map_cons, List.map_nil, List.flatten_cons, List.flatten_nil, List.append_nil, List.mem_cons, List.not_mem_nil, or_false] at hb
      omega
/-- Over some edges one goes on across, over the others one turns back in the triangle. -/
noncomputable def halfway (opp : Nat → Nat) (L : List Nat) : Nat → Nat := fun x => if x ∈ both opp L then pv (opp x) else pv x
theorem halfway_rounds (K : Closed F N opp vert) : ∀ L : List Nat, (∀ c ∈ L, c < 3 * F) → (both opp L).Nodup → ∃ Cs, Rounds (halfway opp L) (3 * F) Cs ∧ (Cs.length + F + L.length) % 2 = 0
  | [], _, _ => ⟨_, (faces_rounds F).congr (fun x _ => by simp [halfway, both]), by simp; omega⟩
  | a :: L, hl, hn => by
    have ha := hl a (List.mem_cons_self ..)
    have hb := K.lt a ha
    have e : both opp (a :: L) = a :: (L ++ opp a :: L.map opp) := by simp [both]
    have hp : (a :: (L ++ opp a :: L.map opp)).Perm (a :: opp a :: both opp L) := List.Perm.cons _ List.perm_middle
    rw [e] at hn
    have hn2 := hp.nodup_iff.1 hn
    simp only [List.nodup_cons, List.mem_cons, not_or] at hn2
    obtain ⟨Cs, h1, h2⟩ := halfway_rounds K L (fun c hc => hl c (List.mem_cons_of_mem _ hc)) hn2.2.2
    obtain ⟨Ds, h3, h4⟩ := h1.swap ha hb hn2.1.1
    refine ⟨Ds, h3.congr ?_, by simp only [List.length_cons]; omega⟩
    intro x _
    unfold halfway swp2
    simp only []
    have hm : x ∈ both opp (a :: L) ↔ x = a ∨ x = opp a ∨ x ∈ both opp L := by
      rw [e, hp.mem_iff]
      simp
    by_cases h5 : x = a
    · subst h5
      rw [if_pos (hm.2 (.inl rfl)), if_pos rfl, if_neg hn2.2.1]
    · by_cases h6 : x = opp a
      · subst h6
        rw [if_pos (hm.2 (.inr (.inl rfl))), if_neg h5, if_pos rfl, if_neg hn2.1.2, K.inv a ha]
      · rw [if_neg h5, if_neg h6]
        by_cases h7 : x ∈ both opp L
        · rw [if_pos (hm.2 (.inr (.inr h7))), if_pos h7]
        · rw [if_neg (fun h => by rcases hm.1 h with h | h | h; exact h5 h; exact h6 h; exact h7 h), if_neg h7]
/-- One corner of each edge. -/
def reps (F : Nat) (opp : Nat → Nat) : List Nat := (List.range (3 * F)).filter fun c => decide (c < opp c)
theorem reps_ok (K : Closed F N opp vert) : (∀ c ∈ reps F opp, c < 3 * F) ∧ (both opp (reps F opp)).Nodup ∧ ∀ x, x < 3 * F → x ∈ both opp (reps F opp) := by
  have h1 : ∀ c, c ∈ reps F opp ↔ c < 3 * F ∧ c < opp c := by simp [reps]
  refine ⟨fun c hc => ((h1 c).1 hc).1, ?_, ?_⟩
  · unfold both
    rw [List.nodup_append]
    refine ⟨List.nodup_range.filter _, ?_, ?_⟩
    · refine List.pairwise_map.2 ?_
      refine List.Pairwise.imp_of_mem ?_ (List.nodup_range.filter _ : (reps F opp).Nodup)
      intro a b ha hb hab e
      exact hab (by rw [← K.inv a ((h1 a).1 ha).1, e, K.inv b ((h1 b).1 hb).1])
    · rintro a ha b hb rfl
      obtain ⟨c, hc, rfl⟩ := List.mem_map.1 hb
      have h2 := (h1 _).1 ha
      have h3 := (h1 _).1 hc
      rw [K.inv c h3.1] at h2
      omega
  · intro x hx
    rw [both_mem]
    rcases Nat.lt_trichotomy x (opp x) with h | h | h
    · exact .inl ((h1 x).2 ⟨hx, h⟩)
    · exact absurd (by rw [← h]) (K.apart x hx)
    · exact .inr ⟨opp x, (h1 _).2 ⟨K.lt x hx, by rw [K.inv x hx]; exact h⟩, K.inv x hx⟩
theorem reps_len (K : Closed F N opp vert) : 2 * (reps F opp).length = 3 * F := by
  obtain ⟨h1, h2, h3⟩ := reps_ok K
  have a := nodup_le (m := List.range (3 * F)) h2 (fun x hx => by
    rw [List.mem_range]
    rcases both_mem.1 hx with h | ⟨b, hb, rfl⟩
    · exact h1 x h
    · exact K.lt b (h1 b hb))
  have b := nodup_le (l := List.range (3 * F)) (m := both opp (reps F opp)) List.nodup_range (fun x hx => h3 x (List.mem_range.1 hx))
  rw [both_length] at a b
  simp only [List.length_range] at a b
  omega
theorem one_corner (K : Closed F N opp vert) {c d : Nat} (hc : c < 3 * F) (e : c / 3 = d / 3) (hv : vert c = vert d) : c = d := by
  have h0 := K.simple c hc
  have h1 := K.simple (pv c) (pv_lt hc)
  rw [nx_pv] at h1
  have : d = c ∨ d = nx c ∨ d = pv c := by unfold nx pv; omega
  rcases this with rfl | rfl | rfl
  · rfl
  · exact absurd hv.symm h0
  · exact absurd hv h1
/-- Rounds at vertices are as many as vertices. -/
theorem rounds_verts (K : Closed F N opp vert)
    (ar : ∀ (v : Nat) (S : Nat → Prop), (∃ c, c < 3 * F ∧ vert c = v ∧ S (c / 3)) → (∀ c, c < 3 * F → vert c = v → S (c / 3) → S (opp (nx c) / 3) ∧ S (opp (pv c) / 3)) → ∀ c, c < 3 * F → vert c = v → S (c / 3))
    {Cs : List (List Nat)} (h : Rounds (fun x => pv (opp x)) (3 * F) Cs) : Cs.length = N := by
  have hlt : ∀ C ∈ Cs, ∀ x ∈ C, x < 3 * F := fun C hC x hx => (h.all x).1 (List.mem_flatten.2 ⟨C, hC, hx⟩)
  -- closed under the step, forward and backward
  have fwd : ∀ C ∈ Cs, ∀ x ∈ C, pv (opp x) ∈ C := by
    intro C hC x hx
    obtain ⟨c, r, rfl, hm⟩ := h.rot C hC
    have : pv (opp x) ∈ (c :: r).map (fun x => pv (opp x)) := List.mem_map_of_mem hx
    rw [hm] at this
    simpa [or_comm] using this
  have bwd : ∀ C ∈ Cs, ∀ x, x < 3 * F → pv (opp x) ∈ C → x ∈ C := by
    intro C hC x hx hp
    obtain ⟨c, r, rfl, hm⟩ := h.rot C hC
    have : pv (opp x) ∈ (c :: r).map (fun x => pv (opp x)) := by
      rw [hm]
      simpa [or_comm] using hp
    obtain ⟨y, hy, e⟩ := List.mem_map.1 this
    have hyl := hlt _ hC y hy
    have e2 : opp y = opp x := by rw [← nx_pv (opp y), e, nx_pv]
    rw [← K.inv x hx, ← e2, K.inv y hyl]
    exact hy
  have key : ∀ C ∈ Cs, ∀ x ∈ C, ∀ y, y < 3 * F → vert (pv y) = vert (pv x) → y ∈ C := by
    intro C hC x hx y hy e
    have hS := ar (vert (pv x)) (fun t => ∃ c, c < 3 * F ∧ c / 3 = t ∧ vert c = vert (pv x) ∧ nx c ∈ C)
      ⟨pv x, pv_lt (hlt C hC x hx), rfl, pv x, pv_lt (hlt C hC x hx), rfl, rfl, by rw [nx_pv]; exact hx⟩
      (fun c hc hv hS => by
        obtain ⟨c2, h1, h2, h3, h4⟩ := hS
        have e0 : c2 = c := one_corner K h1 h2 (h3.trans hv.symm)
        subst e0
        have hn := nx_lt hc
        have hp := pv_lt hc
        refine ⟨⟨nx (opp (nx c2)), nx_lt (K.lt _ hn), nx_div _, ?_, ?_⟩, ⟨pv (opp (pv c2)), pv_lt (K.lt _ hp), pv_div _, ?_, ?_⟩⟩
        · rw [K.vn _ hn, pv_nx]
          exact hv
        · rw [nx_nx]
          exact fwd C hC _ h4
        · rw [K.vp _ hp, nx_pv]
          exact hv
        · rw [nx_pv]
          refine bwd C hC _ (K.lt _ hp) ?_
          rw [K.inv _ hp, pv_pv]
          exact h4) (pv y) (pv_lt hy) e
    obtain ⟨c2, h1, h2, h3, h4⟩ := hS
    have e0 : c2 = pv y := one_corner K h1 h2 (h3.trans e.symm)
    subst e0
    rwa [nx_pv] at h4
  -- the vertex of each round
  have hne : ∀ C ∈ Cs, ∃ x, C.head? = some x ∧ x ∈ C := fun C hC => by
    obtain ⟨c, r, rfl, _⟩ := h.rot C hC
    exact ⟨c, rfl, List.mem_cons_self ..⟩
  have vnd : (Cs.map fun C => vert (pv (C.head?.getD 0))).Nodup := by
    have gen : ∀ Ds : List (List Nat), (∀ D ∈ Ds, D ∈ Cs) → Ds.flatten.Nodup → (Ds.map fun C => vert (pv (C.head?.getD 0))).Nodup := by
      intro Ds
      induction Ds with
      | nil => intros; simp
      | cons D r ih =>
        intro hs hn
        rw [List.flatten_cons, List.nodup_append] at hn
        rw [List.map_cons, List.nodup_cons]
        refine ⟨fun hm => ?_, ih (fun D hD => hs D (List.mem_cons_of_mem _ hD)) hn.2.1⟩
        obtain ⟨C, hC, e⟩ := List.mem_map.1 hm
        obtain ⟨x, hx, hxm⟩ := hne C (hs C (List.mem_cons_of_mem _ hC))
        obtain ⟨y, hy, hym⟩ := hne D (hs D (List.mem_cons_self ..))
        rw [hx, hy] at e
        simp only [Option.getD_some] at e
        have hxD := key D (hs D (List.mem_cons_self ..)) y hym x (hlt C (hs C (List.mem_cons_of_mem _ hC)) x hxm) e
        exact hn.2.2 x hxD x (List.mem_flatten.2 ⟨C, hC, hxm⟩) rfl
    exact gen Cs (fun D hD => hD) h.nd
  have a := nodup_le (m := List.range N) vnd (fun v hv => by
    obtain ⟨C, hC, rfl⟩ := List.mem_map.1 hv
    obtain ⟨x, hx, hxm⟩ := hne C hC
    rw [hx, List.mem_range]
    exact K.vlt _ (pv_lt (hlt C hC x hxm)))
  have b := nodup_le (l := List.range N) (m := Cs.map fun C => vert (pv (C.head?.getD 0))) List.nodup_range (fun v hv => by
    obtain ⟨c, hc, hv⟩ := K.all v (List.mem_range.1 hv)
    obtain ⟨C, hC, hm⟩ := List.mem_flatten.1 ((h.all (nx c)).2 (nx_lt hc))
    obtain ⟨x, hx, hxm⟩ := hne C hC
    refine List.mem_map.2 ⟨C, hC, ?_⟩
    rw [hx]
    -- the head has the vertex of all
    have const : ∀ l : List Nat, (∀ y ∈ l, y < 3 * F) → ∀ c0 r, l = c0 :: r → l.map (fun x => pv (opp x)) = r ++ [c0] → ∀ y ∈ l, vert (pv y) = vert (pv c0) := by
      intro l hl c0 r e hm y hy
      have step : ∀ y ∈ l, vert (pv (pv (opp y))) = vert (pv y) := fun y hy => by
        rw [pv_pv]
        exact K.vn y (hl y hy)
      subst e
      have all : ∀ (r : List Nat) (c1 : Nat) (z : List Nat), (c1 :: r).map (fun x => pv (opp x)) = r ++ z → (∀ y ∈ c1 :: r, vert (pv (pv (opp y))) = vert (pv y)) → ∀ y ∈ c1 :: r, vert (pv y) = vert (pv c1) := by
        intro r
        induction r with
        | nil =>
          intro c1 z _ _ y hy
          rw [List.mem_singleton.1 hy]
        | cons d r ih =>
          intro c1 z hm hst y hy
          simp only [List.map_cons, List.cons_append, List.cons.injEq] at hm
          have hd : vert (pv d) = vert (pv c1) := by
            rw [← hm.1]
            exact hst c1 (List.mem_cons_self ..)
          rcases List.mem_cons.1 hy with rfl | hy
          · rfl
          · rw [← hd]
            exact ih d z (by simpa using hm.2) (fun y hy => hst y (List.mem_cons_of_mem _ hy)) y hy
      exact all r c0 [c0] hm step y hy
    obtain ⟨c0, r, rfl, hm2⟩ := h.rot C hC
    simp only [List.head?_cons, Option.some.injEq] at hx
    subst hx
    have := const _ (hlt _ hC) c0 r rfl hm2 (nx c) hm
    rw [pv_nx, hv] at this
    exact this.symm)
  simp only [List.length_map, List.length_range] at a b
  omega
theorem euler_even (K : Closed F N opp vert)
    (ar : ∀ (v : Nat) (S : Nat → Prop), (∃ c, c < 3 * F ∧ vert c = v ∧ S (c / 3)) → (∀ c, c < 3 * F → vert c = v → S (c / 3) → S (opp (nx c) / 3) ∧ S (opp (pv c) / 3)) → ∀ c, c < 3 * F → vert c = v → S (c / 3)) :
    ∃ m, F = 2 * m ∧ (N + m) % 2 = 0 := by
  obtain ⟨h1, h2, h3⟩ := reps_ok K
  have hl := reps_len K
  obtain ⟨Cs, hc, he⟩ := halfway_rounds K _ h1 h2
  have hv := rounds_verts K ar (hc.congr (ρ := fun x => pv (opp x)) (fun x hx => by unfold halfway; rw [if_pos (h3 x hx)]))
  exact ⟨F / 2, by omega, by omega⟩
end
end Jor
end Go.Proofs.Ytpnkhgjjlionnaa
namespace Go.Proofs.Ytpnkhgjjlionnaa
open Go.RowKit

def oppN (T : List Tr) (c : Nat) : Nat := (oppI T (c : Int)).toNat
def verN (T : List Tr) (c : Nat) : Nat := (vertN T c).toNat
/-- No edge of the border. -/
def ClosedT (T : List Tr) : Prop := ∀ c : Nat, c < 3 * T.length → 0 ≤ oppI T (c : Int)
theorem ClosedT.opp {T : List Tr} (h : ClosedT T) {c : Nat} (hc : c < 3 * T.length) : oppI T (c : Int) = (oppN T c : Int) := by
  have := h c hc
  unfold oppN
  omega
theorem triAt_get {T : List Tr} {c : Nat} (hc : c < 3 * T.length) : ∃ t, T[c / 3]? = some t ∧ triAt T c = t ∧ t ∈ T := by
  have hk : c / 3 < T.length := by omega
  exact ⟨T[c / 3], List.getElem?_eq_getElem hk, by simp [triAt, List.getElem?_eq_getElem hk], List.getElem_mem _⟩
theorem triAt_nx (T : List Tr) (c : Nat) : triAt T (Jor.nx c) = triAt T c := by unfold triAt; rw [Jor.nx_div]
theorem triAt_pv (T : List Tr) (c : Nat) : triAt T (Jor.pv c) = triAt T c := by unfold triAt; rw [Jor.pv_div]
/-- A triangle's three corners, from any of them on. -/
theorem vert_turn (T : List Tr) (c : Nat) : (vertN T c, vertN T (Jor.nx c), vertN T (Jor.pv c)) = ((triAt T c).1, (triAt T c).2.1, (triAt T c).2.2) ∨ (vertN T c, vertN T (Jor.nx c), vertN T (Jor.pv c)) = ((triAt T c).2.1, (triAt T c).2.2, (triAt T c).1) ∨ (vertN T c, vertN T (Jor.nx c), vertN T (Jor.pv c)) = ((triAt T c).2.2, (triAt T c).1, (triAt T c).2.1) := by
  unfold vertN
  rw [triAt_nx, triAt_pv]
  have m1 : Jor.nx c % 3 = (c + 1) % 3 := by unfold Jor.nx; omega
  have m2 : Jor.pv c % 3 = (c + 2) % 3 := by unfold Jor.pv; omega
  have : c % 3 = 0 ∨ c % 3 = 1 ∨ c % 3 = 2 := by omega
  rcases this with e | e | e
  · exact .inl (by simp [e, m1, m2, show (c + 1) % 3 = 1 from by omega, show (c + 2) % 3 = 2 from by omega])
  · exact .inr (.inl (by simp [e, m1, m2, show (c + 1) % 3 = 2 from by omega, show (c + 2) % 3 = 0 from by omega]))
  · exact .inr (.inr (by simp [e, m1, m2, show (c + 1) % 3 = 0 from by omega, show (c + 2) % 3 = 1 from by omega]))
theorem vert_ne {T : List Tr} (hs : ∀ t ∈ T, simple3 t) {c : Nat} (hc : c < 3 * T.length) : vertN T (Jor.nx c) ≠ vertN T c ∧ vertN T (Jor.pv c) ≠ vertN T c ∧ vertN T (Jor.nx c) ≠ vertN T (Jor.pv c) := by
  obtain ⟨t, _, ht, hm⟩ := triAt_get hc
  obtain ⟨s1, s2, s3⟩ := hs t hm
  have := vert_turn T c
  rw [ht] at this
  simp only [Prod.mk.injEq] at this
  rcases this with ⟨a, b, d⟩ | ⟨a, b, d⟩ | ⟨a, b, d⟩ <;> rw [a, b, d]
  · exact ⟨s1.symm, s3, s2⟩
  · exact ⟨s2.symm, s1, s3⟩
  · exact ⟨s3.symm, s2, s1⟩
theorem vert_has {T : List Tr} {i : Nat} {t : Tr} (ht : T[i]? = some t) {x : Int} : hasV t x ↔ ∃ c, c < 3 * T.length ∧ c / 3 = i ∧ vertN T c = x := by
  have hi := (List.getElem?_eq_some_iff.1 ht).1
  have e0 : triAt T (3 * i) = t := by unfold triAt; rw [show 3 * i / 3 = i from by omega, ht]; rfl
  have e1 : triAt T (3 * i + 1) = t := by unfold triAt; rw [show (3 * i + 1) / 3 = i from by omega, ht]; rfl
  have e2 : triAt T (3 * i + 2) = t := by unfold triAt; rw [show (3 * i + 2) / 3 = i from by omega, ht]; rfl
  have v0 : vertN T (3 * i) = t.1 := by unfold vertN; rw [if_pos (by omega), e0]
  have v1 : vertN T (3 * i + 1) = t.2.1 := by unfold vertN; rw [if_neg (by omega), if_pos (by omega), e1]
  have v2 : vertN T (3 * i + 2) = t.2.2 := by unfold vertN; rw [if_neg (by omega), if_neg (by omega), e2]
  constructor
  · rintro (h | h | h)
    · exact ⟨3 * i, by omega, by omega, by rw [v0, h]⟩
    · exact ⟨3 * i + 1, by omega, by omega, by rw [v1, h]⟩
    · exact ⟨3 * i + 2, by omega, by omega, by rw [v2, h]⟩
  · rintro ⟨c, hc, h3, rfl⟩
    have : c = 3 * i ∨ c = 3 * i + 1 ∨ c = 3 * i + 2 := by omega
    rcases this with rfl | rfl | rfl
    · exact .inl v0
    · exact .inr (.inl v1)
    · exact .inr (.inr v2)
theorem atV_corner {T : List Tr} {v : Int} {i : Nat} : i ∈ atV T v ↔ ∃ c, c < 3 * T.length ∧ c / 3 = i ∧ vertN T c = v := by
  unfold atV
  rw [sieve_mem]
  unfold preT
  rw [List.mem_flatMap]
  constructor
  · rintro ⟨k, hk, hm⟩
    rw [List.mem_range] at hk
    have ht : T[k]? = some T[k] := List.getElem?_eq_getElem hk
    rw [ht] at hm
    simp only [three, Option.getD_some, List.mem_cons, Prod.mk.injEq, List.not_mem_nil, or_false] at hm
    have hik : i = k := by rcases hm with h | h | h <;> exact h.2
    subst hik
    exact (vert_has ht).1 (by rcases hm with h | h | h; exact .inl h.1; exact .inr (.inl h.1); exact .inr (.inr h.1))
  · rintro ⟨c, hc, rfl, hv⟩
    have hk : c / 3 < T.length := by omega
    have ht : T[c / 3]? = some T[c / 3] := List.getElem?_eq_getElem hk
    refine ⟨c / 3, List.mem_range.2 hk, ?_⟩
    rw [ht]
    have := (vert_has ht (x := v)).2 ⟨c, hc, rfl, hv⟩
    simp only [three, Option.getD_some, List.mem_cons, Prod.mk.injEq, List.not_mem_nil, or_false]
    rcases this with h | h | h
    · exact .inl ⟨h, trivial⟩
    · exact .inr (.inl ⟨h, trivial⟩)
    · exact .inr (.inr ⟨h, trivial⟩)
theorem edge_pv (T : List Tr) (c : Nat) : edgeN T (Jor.pv c) = (vertN T c, vertN T (Jor.nx c)) := by unfold edgeN; rw [Jor.nx_pv, Jor.pv_pv]
theorem edge_nx (T : List Tr) (c : Nat) : edgeN T (Jor.nx c) = (vertN T (Jor.pv c), vertN T c) := by unfold edgeN; rw [Jor.nx_nx, Jor.pv_nx]
theorem opp_is {T : List Tr} (hu : (T.flatMap edges3).Nodup) {c d : Nat} (hc : c < 3 * T.length) (hd : d < 3 * T.length) (h : edgeN T d = ((edgeN T c).2, (edgeN T c).1)) : oppN T c = d := by
  unfold oppN oppI
  rw [edgeI_nat hc, ← h, facI_of hu hd]
  rfl
/-- Round a vertex one comes to all its triangles. -/
theorem around {N : Int} {T : List Tr} (hS : Surf N T) {v : Int} (hv : inR N v) (S : Nat → Prop) (h0 : ∃ c, c < 3 * T.length ∧ vertN T c = v ∧ S (c / 3))
    (hs : ∀ c, c < 3 * T.length → vertN T c = v → S (c / 3) → S (oppN T (Jor.nx c) / 3) ∧ S (oppN T (Jor.pv c) / 3)) : ∀ c, c < 3 * T.length → vertN T c = v → S (c / 3) := by
  have hl := hS.pinch v hv
  have cl : ∀ i ∈ atV T v, ∀ k ∈ atV T v, S i → adjV T v i k → S k := by
    intro i hi k hk hSi hadj
    obtain ⟨c, hc, rfl, hcv⟩ := atV_corner.1 hi
    obtain ⟨d, hd, rfl, hdv⟩ := atV_corner.1 hk
    obtain ⟨a, b, x, ha, hb, hx, hax, hbx⟩ := hadj
    obtain ⟨c', hc', e1, hcx⟩ := (vert_has ha).1 hax
    obtain ⟨d', hd', e2, hdx⟩ := (vert_has hb).1 hbx
    have hc3 : c' = Jor.nx c ∨ c' = Jor.pv c := by
      have : c' = c ∨ c' = Jor.nx c ∨ c' = Jor.pv c := by unfold Jor.nx Jor.pv; omega
      rcases this with rfl | h
      · exact absurd (hcx.symm.trans hcv) hx
      · exact h
    have hd3 : d' = Jor.nx d ∨ d' = Jor.pv d := by
      have : d' = d ∨ d' = Jor.nx d ∨ d' = Jor.pv d := by unfold Jor.nx Jor.pv; omega
      rcases this with rfl | h
      · exact absurd (hdx.symm.trans hdv) hx
      · exact h
    have hst := hs c hc hcv hSi
    have hpc : Jor.pv c < 3 * T.length := Jor.pv_lt hc
    have hnc : Jor.nx c < 3 * T.length := Jor.nx_lt hc
    have hpd : Jor.pv d < 3 * T.length := Jor.pv_lt hd
    have hnd : Jor.nx d < 3 * T.length := Jor.nx_lt hd
    rcases hc3 with rfl | rfl
    · rcases hd3 with rfl | rfl
      · have e := edge_inj hS.twice hpc hpd (by rw [edge_pv, edge_pv, hcv, hdv, hcx, hdx])
        have : c / 3 = d / 3 := by rw [← Jor.pv_div c, e, Jor.pv_div]
        rw [← this]
        exact hSi
      · have e := opp_is hS.twice hpc hnd (by rw [edge_pv, edge_nx, hcv, hdv, hcx, hdx])
        rw [← Jor.nx_div d, ← e]
        exact hst.2
    · rcases hd3 with rfl | rfl
      · have e := opp_is hS.twice hnc hpd (by rw [edge_pv, edge_nx, hcv, hdv, hcx, hdx])
        rw [← Jor.pv_div d, ← e]
        exact hst.1
      · have e := edge_inj hS.twice hnc hnd (by rw [edge_nx, edge_nx, hcv, hdv, hcx, hdx])
        have : c / 3 = d / 3 := by rw [← Jor.nx_div c, e, Jor.nx_div]
        rw [← this]
        exact hSi
  have sym : ∀ i k, adjV T v i k → adjV T v k i := fun i k ⟨a, b, x, h1, h2, h3, h4, h5⟩ => ⟨b, a, x, h2, h1, h3, h5, h4⟩
  obtain ⟨c0, hc0, hv0, hS0⟩ := h0
  have hm0 : c0 / 3 ∈ atV T v := atV_corner.2 ⟨c0, hc0, rfl, hv0⟩
  intro c hc hcv
  have hm : c / 3 ∈ atV T v := atV_corner.2 ⟨c, hc, rfl, hcv⟩
  cases hh : (atV T v).head? with
  | none =>
    rw [List.head?_eq_none_iff] at hh
    rw [hh] at hm
    cases hm
  | some i0 =>
    by_cases hi : S i0
    · exact hl S (fun i e => by rw [hh] at e; cases e; exact hi) (fun i hi k hk h1 h2 => cl i hi k hk h1 h2) _ hm
    · exfalso
      exact hl (fun k => ¬ S k) (fun i e => by rw [hh] at e; cases e; exact hi) (fun i hi k hk h1 h2 h3 => h1 (cl k hk i hi h3 (sym _ _ h2))) _ hm0 hS0
theorem vert_rng {N : Int} {T : List Tr} (hS : Surf N T) {c : Nat} (hc : c < 3 * T.length) : 0 ≤ vertN T c ∧ vertN T c < N :=
  vertN_in (fun t ht => by
    obtain ⟨⟨a, b⟩, ⟨d, e⟩, f, g⟩ := hS.inr t ht
    exact ⟨a, b, d, e, f, g⟩) hc
theorem verN_eq {N : Int} {T : List Tr} (hS : Surf N T) {c d : Nat} (hc : c < 3 * T.length) (hd : d < 3 * T.length) : verN T c = verN T d ↔ vertN T c = vertN T d := by
  have h1 := (vert_rng hS hc).1
  have h2 := (vert_rng hS hd).1
  unfold verN
  omega
theorem closed_of {N : Int} {T : List Tr} (hS : Surf N T) (hc : ClosedT T) (hconn : ∀ S : Nat → Prop, S 0 → (∀ c, c < 3 * T.length → S (c / 3) → S (oppN T c / 3)) → ∀ t, t < T.length → S t) : Jor.Closed T.length N.toNat (oppN T) (verN T) where
  lt := fun c h => (opp_some h (hc.opp h)).1
  inv := fun c h => by
    have h1 := opp_back hS.twice h (hc.opp h)
    unfold oppN at h1 ⊢
    rw [h1]
    rfl
  apart := fun c h e => by
    obtain ⟨h1, h2⟩ := opp_some h (hc.opp h)
    have hv := vert_ne hS.simple h
    have : oppN T c = c ∨ oppN T c = Jor.nx c ∨ oppN T c = Jor.pv c := by unfold Jor.nx Jor.pv; omega
    rcases this with e | e | e
    · rw [e] at h2
      unfold edgeN at h2
      simp only [Prod.mk.injEq] at h2
      exact hv.2.2 h2.1
    · rw [e, edge_nx] at h2
      unfold edgeN at h2
      simp only [Prod.mk.injEq] at h2
      exact hv.1 h2.2.symm
    · rw [e, edge_pv] at h2
      unfold edgeN at h2
      simp only [Prod.mk.injEq] at h2
      exact hv.2.1 h2.1.symm
  vn := fun c h => by
    obtain ⟨_, h2⟩ := opp_some h (hc.opp h)
    have := congrArg Prod.fst h2
    simp only [edgeN] at this
    unfold verN
    rw [this]
  vp := fun c h => by
    obtain ⟨_, h2⟩ := opp_some h (hc.opp h)
    have := congrArg Prod.snd h2
    simp only [edgeN] at this
    unfold verN
    rw [this]
  simple := fun c h e => (vert_ne hS.simple h).1 ((verN_eq hS (Jor.nx_lt h) h).1 e)
  vlt := fun c h => by
    have := vert_rng hS h
    unfold verN
    omega
  all := fun v hv => by
    have hm := hS.lonely (v : Int) ⟨by omega, by omega⟩
    unfold flatT at hm
    obtain ⟨t, ht, hx⟩ := List.mem_flatMap.1 hm
    obtain ⟨i, hi, hit⟩ := List.getElem_of_mem ht
    have hti : T[i]? = some t := by rw [List.getElem?_eq_getElem hi, hit]
    simp only [List.mem_cons, List.not_mem_nil, or_false] at hx
    obtain ⟨c, h1, _, h3⟩ := (vert_has hti (x := (v : Int))).1 hx
    exact ⟨c, h1, by unfold verN; rw [h3]; rfl⟩
  conn := hconn
theorem ar_of {N : Int} {T : List Tr} (hS : Surf N T) (v : Nat) (S : Nat → Prop) (h0 : ∃ c, c < 3 * T.length ∧ verN T c = v ∧ S (c / 3)) (hs : ∀ c, c < 3 * T.length → verN T c = v → S (c / 3) → S (oppN T (Jor.nx c) / 3) ∧ S (oppN T (Jor.pv c) / 3)) : ∀ c, c < 3 * T.length → verN T c = v → S (c / 3) := by
  obtain ⟨c0, hc0, hv0, hS0⟩ := h0
  have key : ∀ c, c < 3 * T.length → (verN T c = v ↔ vertN T c = vertN T c0) := fun c hc => by
    rw [← hv0]
    exact verN_eq hS hc hc0
  intro c hc hv
  exact around hS (v := vertN T c0) (vert_rng hS hc0) S ⟨c0, hc0, rfl, hS0⟩ (fun d hd hdv => hs d hd ((key d hd).2 hdv)) c hc ((key c hc).1 hv)
theorem even_of {N : Int} {T : List Tr} (hS : Surf N T) (hc : ClosedT T) (hconn : ∀ S : Nat → Prop, S 0 → (∀ c, c < 3 * T.length → S (c / 3) → S (oppN T c / 3)) → ∀ t, t < T.length → S t) : ∃ m : Nat, T.length = 2 * m ∧ (N.toNat + m) % 2 = 0 :=
  Jor.euler_even (closed_of hS hc hconn) (ar_of hS)
/-- One part alone. -/
theorem conn_of {T : List Tr} {out : List Int} (h : Shl T out) (hc : ClosedT T) (h0 : ∀ j, j < T.length → at_ out j = 0) (S : Nat → Prop) (s0 : S 0) (hs : ∀ c, c < 3 * T.length → S (c / 3) → S (oppN T c / 3)) : ∀ t, t < T.length → S t := by
  intro t
  induction t using Nat.strongRecOn with
  | ind t ih =>
    intro ht
    rcases h.new t ht with ⟨i, hi, _, hr⟩ | ⟨h1, _⟩
    · exact hr S (ih i hi (by omega)) (fun c o hcl ho hSc => by
        have := hs c hcl hSc
        rw [hc.opp hcl] at ho
        rwa [show oppN T c = o from by omega] at this)
    · by_cases e : t = 0
      · rw [e]
        exact s0
      · have := h1 0 (by omega)
        rw [h0 0 (by omega), h0 t ht] at this
        omega
end Go.Proofs.Ytpnkhgjjlionnaa
namespace Go.Proofs.Ytpnkhgjjlionnaa
open Go.RowKit Go.Maps

theorem opp_isI {T : List Tr} (hu : (T.flatMap edges3).Nodup) {c d : Nat} (hc : c < 3 * T.length) (hd : d < 3 * T.length) (h : edgeN T d = ((edgeN T c).2, (edgeN T c).1)) : oppI T (c : Int) = (d : Int) := by
  unfold oppI
  rw [edgeI_nat hc, ← h, facI_of hu hd]
/-- Round a vertex one comes to all its triangles. -/
theorem aroundB {N : Int} {T : List Tr} (hS : Surf N T) {v : Int} (hv : inR N v) (S : Nat → Prop) (h0 : ∃ c, c < 3 * T.length ∧ vertN T c = v ∧ S (c / 3))
    (hs : ∀ c, c < 3 * T.length → vertN T c = v → S (c / 3) → (∀ o : Nat, oppI T ((Jor.nx c : Nat) : Int) = (o : Int) → S (o / 3)) ∧ (∀ o : Nat, oppI T ((Jor.pv c : Nat) : Int) = (o : Int) → S (o / 3))) : ∀ c, c < 3 * T.length → vertN T c = v → S (c / 3) := by
  have hl := hS.pinch v hv
  have cl : ∀ i ∈ atV T v, ∀ k ∈ atV T v, S i → adjV T v i k → S k := by
    intro i hi k hk hSi hadj
    obtain ⟨c, hc, rfl, hcv⟩ := atV_corner.1 hi
    obtain ⟨d, hd, rfl, hdv⟩ := atV_corner.1 hk
    obtain ⟨a, b, x, ha, hb, hx, hax, hbx⟩ := hadj
    obtain ⟨c', hc', e1, hcx⟩ := (vert_has ha).1 hax
    obtain ⟨d', hd', e2, hdx⟩ := (vert_has hb).1 hbx
    have hc3 : c' = Jor.nx c ∨ c' = Jor.pv c := by
      have : c' = c ∨ c' = Jor.nx c ∨ c' = Jor.pv c := by unfold Jor.nx Jor.pv; omega
      rcases this with rfl | h
      · exact absurd (hcx.symm.trans hcv) hx
      · exact h
    have hd3 : d' = Jor.nx d ∨ d' = Jor.pv d := by
      have : d' = d ∨ d' = Jor.nx d ∨ d' = Jor.pv d := by unfold Jor.nx Jor.pv; omega
      rcases this with rfl | h
      · exact absurd (hdx.symm.trans hdv) hx
      · exact h
    have hst := hs c hc hcv hSi
    have hpc : Jor.pv c < 3 * T.length := Jor.pv_lt hc
    have hnc : Jor.nx c < 3 * T.length := Jor.nx_lt hc
    have hpd : Jor.pv d < 3 * T.length := Jor.pv_lt hd
    have hnd : Jor.nx d < 3 * T.length := Jor.nx_lt hd
    rcases hc3 with rfl | rfl
    · rcases hd3 with rfl | rfl
      · have e := edge_inj hS.twice hpc hpd (by rw [edge_pv, edge_pv, hcv, hdv, hcx, hdx])
        have : c / 3 = d / 3 := by rw [← Jor.pv_div c, e, Jor.pv_div]
        rw [← this]
        exact hSi
      · have e := opp_isI hS.twice hpc hnd (by rw [edge_pv, edge_nx, hcv, hdv, hcx, hdx])
        rw [← Jor.nx_div d]
        exact hst.2 _ e
    · rcases hd3 with rfl | rfl
      · have e := opp_isI hS.twice hnc hpd (by rw [edge_pv, edge_nx, hcv, hdv, hcx, hdx])
        rw [← Jor.pv_div d]
        exact hst.1 _ e
      · have e := edge_inj hS.twice hnc hnd (by rw [edge_nx, edge_nx, hcv, hdv, hcx, hdx])
        have : c / 3 = d / 3 := by rw [← Jor.nx_div c, e, Jor.nx_div]
        rw [← this]
        exact hSi
  have sym : ∀ i k, adjV T v i k → adjV T v k i := fun i k ⟨a, b, x, h1, h2, h3, h4, h5⟩ => ⟨b, a, x, h2, h1, h3, h5, h4⟩
  obtain ⟨c0, hc0, hv0, hS0⟩ := h0
  have hm0 : c0 / 3 ∈ atV T v := atV_corner.2 ⟨c0, hc0, rfl, hv0⟩
  intro c hc hcv
  have hm : c / 3 ∈ atV T v := atV_corner.2 ⟨c, hc, rfl, hcv⟩
  cases hh : (atV T v).head? with
  | none =>
    rw [List.head?_eq_none_iff] at hh
    rw [hh] at hm
    cases hm
  | some i0 =>
    by_cases hi : S i0
    · exact hl S (fun i e => by rw [hh] at e; cases e; exact hi) (fun i hi k hk h1 h2 => cl i hi k hk h1 h2) _ hm
    · exfalso
      exact hl (fun k => ¬ S k) (fun i e => by rw [hh] at e; cases e; exact hi) (fun i hi k hk h1 h2 h3 => h1 (cl k hk i hi h3 (sym _ _ h2))) _ hm0 hS0

/-- A fan ends: the edge into the vertex is a border edge. -/
def EndC (T : List Tr) (c : Nat) : Prop := c < 3 * T.length ∧ oppI T ((Jor.nx c : Nat) : Int) = -1
/-- A fan begins: the edge out of the vertex is a border edge. -/
def StaC (T : List Tr) (c : Nat) : Prop := c < 3 * T.length ∧ oppI T ((Jor.pv c : Nat) : Int) = -1
section
variable {N : Int} {T : List Tr}
/-- From corner to corner round a vertex, over the edge behind. -/
theorem turn_nx (hS : Surf N T) {c o : Nat} (hc : c < 3 * T.length) (h : oppI T ((Jor.nx c : Nat) : Int) = (o : Int)) : Jor.nx o < 3 * T.length ∧ vertN T (Jor.nx o) = vertN T c ∧ oppI T ((Jor.pv (Jor.nx o) : Nat) : Int) = ((Jor.nx c : Nat) : Int) := by
  have h1 := opp_some (Jor.nx_lt hc) h
  rw [edge_nx] at h1
  have h2 : vertN T (Jor.nx o) = vertN T c := congrArg Prod.fst h1.2
  refine ⟨Jor.nx_lt h1.1, h2, ?_⟩
  rw [Jor.pv_nx]
  exact opp_back hS.twice (Jor.nx_lt hc) h
theorem nx_inj {a b : Nat} (h : Jor.nx a = Jor.nx b) : a = b := by rw [← Jor.pv_nx a, h, Jor.pv_nx]
theorem pv_inj {a b : Nat} (h : Jor.pv a = Jor.pv b) : a = b := by rw [← Jor.nx_pv a, h, Jor.nx_pv]
open Classical in
/-- Where a fan begins one ends. -/
theorem sta_end (hS : Surf N T) {d : Nat} (hd : StaC T d) : ∃ c, EndC T c ∧ vertN T c = vertN T d := by
  refine Classical.byContradiction fun hno => ?_
  have tot : ∀ c, c < 3 * T.length → vertN T c = vertN T d → ∃ o : Nat, oppI T ((Jor.nx c : Nat) : Int) = (o : Int) := fun c hc hv => by
    rcases opp_cases T ((Jor.nx c : Nat) : Int) with h | ⟨o, h, -⟩
    · exact absurd ⟨c, ⟨hc, h⟩, hv⟩ hno
    · exact ⟨o, h⟩
  let l := (List.range (3 * T.length)).filter fun c => decide (vertN T c = vertN T d)
  let f : Nat → Nat := fun c => Jor.nx (oppI T ((Jor.nx c : Nat) : Int)).toNat
  have hl : ∀ c, c ∈ l ↔ c < 3 * T.length ∧ vertN T c = vertN T d := fun c => by
    show c ∈ (List.range (3 * T.length)).filter _ ↔ _
    rw [List.mem_filter, List.mem_range]
    simp
  have hln : l.Nodup := List.Pairwise.filter _ List.nodup_range
  have hin : ∀ x ∈ d :: l.map f, x ∈ l := by
    intro x hx
    rcases List.mem_cons.1 hx with rfl | hx
    · exact (hl x).2 ⟨hd.1, rfl⟩
    · obtain ⟨c, hc, rfl⟩ := List.mem_map.1 hx
      obtain ⟨h1, h2⟩ := (hl c).1 hc
      obtain ⟨o, ho⟩ := tot c h1 h2
      have := turn_nx hS h1 ho
      refine (hl _).2 ?_
      show Jor.nx (oppI T ((Jor.nx c : Nat) : Int)).toNat < _ ∧ vertN T (Jor.nx (oppI T ((Jor.nx c : Nat) : Int)).toNat) = _
      rw [ho, Int.toNat_natCast]
      exact ⟨this.1, by rw [this.2.1, h2]⟩
  have hfn : (l.map f).Nodup := by
    refine List.pairwise_map.2 (List.Pairwise.imp_of_mem (fun {a b} ha hb hab => ?_) hln)
    obtain ⟨h1, h2⟩ := (hl a).1 ha
    obtain ⟨k1, k2⟩ := (hl b).1 hb
    obtain ⟨o, ho⟩ := tot a h1 h2
    obtain ⟨p, hp⟩ := tot b k1 k2
    intro e
    have e' : Jor.nx (oppI T ((Jor.nx a : Nat) : Int)).toNat = Jor.nx (oppI T ((Jor.nx b : Nat) : Int)).toNat := e
    rw [ho, hp, Int.toNat_natCast, Int.toNat_natCast] at e'
    have e2 := nx_inj e'
    subst e2
    have b1 := opp_back hS.twice (Jor.nx_lt h1) ho
    have b2 := opp_back hS.twice (Jor.nx_lt k1) hp
    rw [b1] at b2
    exact hab (nx_inj (by omega))
  have hdn : d ∉ l.map f := fun hm => by
    obtain ⟨c, hc, he⟩ := List.mem_map.1 hm
    obtain ⟨h1, h2⟩ := (hl c).1 hc
    obtain ⟨o, ho⟩ := tot c h1 h2
    have h3 := (turn_nx hS h1 ho).2.2
    have he' : Jor.nx (oppI T ((Jor.nx c : Nat) : Int)).toNat = d := he
    rw [ho, Int.toNat_natCast] at he'
    rw [he', hd.2] at h3
    omega
  have := Jor.nodup_le (List.nodup_cons.2 ⟨hdn, hfn⟩) hin
  rw [List.length_cons, List.length_map] at this
  omega
/-- Round a vertex one fan begins at most. -/
theorem sta_one (hS : Surf N T) {d e : Nat} (hd : StaC T d) (he : StaC T e) (hv : vertN T d = vertN T e) : d = e := by
  refine Classical.byContradiction fun hne => ?_
  -- who is come to from d, turn by turn
  let R : Nat → Prop := fun x => ∀ P : Nat → Prop, P d → (∀ c o : Nat, c < 3 * T.length → vertN T c = vertN T d → P c → oppI T ((Jor.nx c : Nat) : Int) = (o : Int) → P (Jor.nx o)) → P x
  have hRd : R d := fun P h _ => h
  have hRs : ∀ c o : Nat, c < 3 * T.length → vertN T c = vertN T d → R c → oppI T ((Jor.nx c : Nat) : Int) = (o : Int) → R (Jor.nx o) := fun c o hc hcv h ho P h0 hs => hs c o hc hcv (h P h0 hs) ho
  have hRv : ∀ x, R x → x < 3 * T.length ∧ vertN T x = vertN T d ∧ (x = d ∨ ∃ c o : Nat, c < 3 * T.length ∧ vertN T c = vertN T d ∧ R c ∧ oppI T ((Jor.nx c : Nat) : Int) = (o : Int) ∧ x = Jor.nx o) := fun x hx => hx (fun x => x < 3 * T.length ∧ vertN T x = vertN T d ∧ (x = d ∨ ∃ c o : Nat, c < 3 * T.length ∧ vertN T c = vertN T d ∧ R c ∧ oppI T ((Jor.nx c : Nat) : Int) = (o : Int) ∧ x = Jor.nx o)) ⟨hd.1, rfl, .inl rfl⟩ (fun c o hc hcv hp ho => by
    have := turn_nx hS hc ho
    refine ⟨this.1, by rw [this.2.1, hcv], .inr ⟨c, o, hc, hcv, ?_, ho, rfl⟩⟩
    rcases hp.2.2 with rfl | ⟨c2, o2, h1, h2, h3, h4, rfl⟩
    · exact hRd
    · exact hRs c2 o2 h1 h2 h3 h4)
  have corner : ∀ x y : Nat, x < 3 * T.length → y < 3 * T.length → vertN T x = vertN T y → x / 3 = y / 3 → x = y := fun x y hx hy h1 h2 => by
    have h3 := vert_ne hS.simple hx
    have : y = x ∨ y = Jor.nx x ∨ y = Jor.pv x := by unfold Jor.nx Jor.pv; omega
    rcases this with rfl | rfl | rfl
    · rfl
    · exact absurd h1.symm h3.1
    · exact absurd h1.symm h3.2.1
  have all := aroundB hS (v := vertN T d) (vert_rng hS hd.1) (fun t => ∃ x, R x ∧ x / 3 = t) ⟨d, hd.1, rfl, d, hRd, rfl⟩ (fun c hc hcv ⟨x, hx, hxt⟩ => by
    have hxv := hRv x hx
    obtain rfl := corner x c hxv.1 hc (by rw [hxv.2.1, hcv]) hxt
    refine ⟨fun o ho => ⟨Jor.nx o, hRs x o hc hcv hx ho, Jor.nx_div o⟩, fun o ho => ?_⟩
    rcases hxv.2.2 with rfl | ⟨c2, o2, h1, h2, h3, h4, rfl⟩
    · rw [hd.2] at ho; omega
    · have h5 := (turn_nx hS h1 h4).2.2
      rw [ho] at h5
      have h6 : o = Jor.nx c2 := by omega
      exact ⟨c2, h3, by rw [h6, Jor.nx_div]⟩)
  obtain ⟨x, hx, hxt⟩ := all e he.1 hv.symm
  have hxv := hRv x hx
  obtain rfl := corner x e hxv.1 he.1 (by rw [hxv.2.1, hv]) hxt
  rcases hxv.2.2 with rfl | ⟨c2, o2, h1, h2, h3, h4, rfl⟩
  · exact hne rfl
  · have h5 := (turn_nx hS h1 h4).2.2
    rw [he.2] at h5
    omega
/-- Who comes behind whom on the border. -/
def Nxt (T : List Tr) (v u : Int) : Prop := ∃ c, EndC T c ∧ vertN T c = v ∧ vertN T (Jor.pv c) = u
theorem EndC.sta {c : Nat} (h : EndC T c) : StaC T (Jor.pv c) := ⟨Jor.pv_lt h.1, by rw [Jor.pv_pv]; exact h.2⟩
theorem Nxt.on (hS : Surf N T) {v u : Int} (h : Nxt T v u) : ∃ z, Nxt T u z := by
  obtain ⟨c, h1, -, h3⟩ := h
  obtain ⟨d, h4, h5⟩ := sta_end hS h1.sta
  exact ⟨_, d, h4, by rw [h5, h3], rfl⟩
theorem Nxt.inj (hS : Surf N T) {v v' u : Int} (h : Nxt T v u) (h' : Nxt T v' u) : v = v' := by
  obtain ⟨c, h1, h2, h3⟩ := h
  obtain ⟨d, k1, k2, k3⟩ := h'
  have := pv_inj (sta_one hS h1.sta k1.sta (by rw [h3, k3]))
  subst this
  rw [← h2, ← k2]
theorem Nxt.rng (hS : Surf N T) {v u : Int} (h : Nxt T v u) : (0 ≤ v ∧ v < N) ∧ 0 ≤ u ∧ u < N := by
  obtain ⟨c, h1, rfl, rfl⟩ := h
  exact ⟨vert_rng hS h1.1, vert_rng hS (Jor.pv_lt h1.1)⟩
end
end Go.Proofs.Ytpnkhgjjlionnaa
namespace Go.Proofs.Ytpnkhgjjlionnaa
open Go.RowKit

section
variable {T T' : List Tr} {φ : Nat → Nat} {g : Int → Int}
/-- Across from a corner. -/
theorem opp_iff {T : List Tr} (hE : (T.flatMap edges3).Nodup) {c o : Nat} (hc : c < 3 * T.length) : oppI T (c : Int) = (o : Int) ↔ o < 3 * T.length ∧ edgeN T o = ((edgeN T c).2, (edgeN T c).1) := by
  constructor
  · exact opp_some hc
  · rintro ⟨ho, e⟩
    have h1 := facI_of hE ho
    rw [e] at h1
    have h2 : edgeI T (c : Int) = edgeN T c := by
      unfold edgeI edgeN nextI prevI vertI
      have hh : hasC T (c : Int) = true := hasC_true (by omega) (by omega)
      have h3 : hasC T (((Jor.nx c : Nat)) : Int) = true := hasC_true (by omega) (by have := Jor.nx_lt hc; omega)
      have h4 : hasC T (((Jor.pv c : Nat)) : Int) = true := hasC_true (by omega) (by have := Jor.pv_lt hc; omega)
      simp [hh, h3, h4]
    unfold oppI
    rw [h2]
    exact h1
end
end Go.Proofs.Ytpnkhgjjlionnaa
namespace Go.Proofs.Ytpnkhgjjlionnaa
open Go.RowKit

theorem hasV_mem {t : Tr} {x : Int} : hasV t x ↔ x ∈ [t.1, t.2.1, t.2.2] := by
  unfold hasV
  simp
section
variable {r : Bool} {T T' : List Tr} {π : Nat → Nat} {g : Int → Int}
theorem edges3_has {t e : Tr} (h : e ∈ edges3 t) : hasV t e.1 ∧ hasV t e.2.1 ∧ e.2.2 = 0 := by
  unfold edges3 at h
  simp only [List.mem_cons, List.not_mem_nil, or_false] at h
  unfold hasV
  rcases h with rfl | rfl | rfl
  · exact ⟨.inl rfl, .inr (.inl rfl), rfl⟩
  · exact ⟨.inr (.inl rfl), .inr (.inr rfl), rfl⟩
  · exact ⟨.inr (.inr rfl), .inl rfl, rfl⟩
end
/-! Connected, from whomever on. -/
def Link (T : List Tr) (v : Int) (l : List Nat) (i k : Nat) : Prop := ∀ S : Nat → Prop, S i → (∀ i ∈ l, ∀ k ∈ l, S i → adjV T v i k → S k) → S k
theorem ConnV.of_any {T : List Tr} {v : Int} {l : List Nat} (h : ∀ i ∈ l, ∀ k ∈ l, Link T v l i k) : ConnV T v l := fun S s0 sc k hk => by
  cases l with
  | nil => cases hk
  | cons a r => exact h a (List.mem_cons_self ..) k hk S (s0 a rfl) sc
section
variable {r : Bool} {T T' : List Tr} {π : Nat → Nat} {g : Int → Int}
theorem flatT_has {T : List Tr} {u : Int} : u ∈ flatT T ↔ ∃ t ∈ T, hasV t u := by
  unfold flatT
  rw [List.mem_flatMap]
  constructor
  · rintro ⟨t, ht, hu⟩
    exact ⟨t, ht, hasV_mem.2 hu⟩
  · rintro ⟨t, ht, hu⟩
    exact ⟨t, ht, hasV_mem.1 hu⟩
theorem in3_has {N : Int} {t : Tr} : in3 N t ↔ ∀ x, hasV t x → inR N x := by
  unfold in3 hasV
  constructor
  · rintro ⟨a, b, c⟩ x (rfl | rfl | rfl) <;> assumption
  · intro h
    exact ⟨h _ (.inl rfl), h _ (.inr (.inl rfl)), h _ (.inr (.inr rfl))⟩
end
end Go.Proofs.Ytpnkhgjjlionnaa
namespace Go.Proofs.Ytpnkhgjjlionnaa
open Go.RowKit

/-- A simple surface: closed, of one part, of Euler number 2. -/
structure Simp (N : Int) (T : List Tr) : Prop where
  surf : Surf N T
  closed : ClosedT T
  conn : ∀ S : Nat → Prop, S 0 → (∀ c, c < 3 * T.length → S (c / 3) → S (oppN T c / 3)) → ∀ t, t < T.length → S t
  pos : 0 < T.length
  euler : 2 * N = T.length + 4
variable {N : Int} {T : List Tr} {c : Nat}
end Go.Proofs.Ytpnkhgjjlionnaa
namespace Go.Proofs.Ytpnkhgjjlionnaa
open Go.RowKit

/-- The vertices of a way with those ahead and behind. -/
def gp : Int → List Int → Int → List Tr
  | _, [], _ => []
  | x, v :: r, e => (x, v, r.headD e) :: gp v r e
theorem lastD_app : ∀ (l : List Int) (x : Int) (r : List Int) (d : Int), (l ++ x :: r).getLastD d = r.getLastD x
  | [], x, r, d => List.getLastD_cons
  | a :: l, x, r, d => by rw [List.cons_append, List.getLastD_cons, lastD_app l x r a]
theorem gp_append : ∀ (l : List Int) (x v : Int) (r : List Int) (e : Int), gp x (l ++ v :: r) e = gp x l v ++ gp (l.getLastD x) (v :: r) e
  | [], _, _, _, _ => rfl
  | a :: l, x, v, r, e => by
    have h := gp_append l a v r e
    have h1 : (l ++ v :: r).headD e = l.headD v := by cases l <;> rfl
    show (x, a, (l ++ v :: r).headD e) :: gp a (l ++ v :: r) e = ((x, a, l.headD v) :: gp a l v) ++ gp ((a :: l).getLastD x) (v :: r) e
    rw [h, h1, List.getLastD_cons, List.cons_append]
/-- A loop's vertices with those ahead and behind. -/
def gapsL (l : List Int) : List Tr := match l with
  | [] => []
  | a :: r => gp (r.getLastD a) (a :: r) a
def gapsS (Ls : List (List Int)) : List Tr := Ls.flatMap gapsL
section
variable {a b u : Int} {p q r : List Int}
theorem gaps_old (a b u : Int) (p q : List Int) : gapsL (a :: b :: p ++ u :: q) = (q.getLastD u, a, b) :: (a, b, p.headD u) :: (gp b p u ++ (p.getLastD b, u, q.headD a) :: gp u q a) := by
  have h : ((b :: p) ++ u :: q).getLastD a = q.getLastD u := lastD_app (b :: p) u q a
  show gp (((b :: p) ++ u :: q).getLastD a) (a :: ((b :: p) ++ u :: q)) a = _
  rw [h]
  show (q.getLastD u, a, b) :: gp a ((b :: p) ++ u :: q) a = _
  rw [gp_append]
  have h2 : (b :: p).getLastD a = p.getLastD b := List.getLastD_cons
  rw [h2]
  rfl
theorem gaps_A (a u : Int) (q : List Int) : gapsL (a :: u :: q) = (q.getLastD u, a, u) :: (a, u, q.headD a) :: gp u q a := by
  have h : (u :: q).getLastD a = q.getLastD u := List.getLastD_cons
  show gp ((u :: q).getLastD a) (a :: u :: q) a = _
  rw [h]
  rfl
end
/-- The triangles at a vertex hang together, over common vertices and over gaps. -/
def GapAt (T : List Tr) (G : List Tr) (v : Int) (i k : Nat) : Prop := ∃ x y s t, (x, v, y) ∈ G ∧ T[i]? = some s ∧ T[k]? = some t ∧ (v, x, 0) ∈ edges3 s ∧ (y, v, 0) ∈ edges3 t
structure Cl (T : List Tr) (G : List Tr) (v : Int) (S : Nat → Prop) : Prop where
  adj : ∀ i k, S i → adjV T v i k → hasV (T.getD i (0, 0, 0)) v → hasV (T.getD k (0, 0, 0)) v → S k
  gap : ∀ i k, GapAt T G v i k → (S i ↔ S k)
def Pin (T : List Tr) (G : List Tr) (v : Int) : Prop := ∀ S, Cl T G v S → ∀ (i k : Nat) (s t : Tr), T[i]? = some s → T[k]? = some t → hasV s v → hasV t v → S i → S k
/-- What holds of the triangles laid so far and the gaps of the loops. -/
structure ZG (N : Nat) (T : List Tr) (G : List Tr) : Prop where
  rng : ∀ t ∈ T, ∀ x, hasV t x → 0 ≤ x ∧ x < N
  lone : ∀ x : Int, 0 ≤ x → x < N → ∃ t ∈ T, hasV t x
  sim : ∀ t ∈ T, simple3 t
  opn : ∀ x v y, (x, v, y) ∈ G → (v, x, 0) ∈ T.flatMap edges3 ∧ (y, v, 0) ∈ T.flatMap edges3
  clo : ∀ p q, (p, q, 0) ∈ T.flatMap edges3 → (q, p, 0) ∈ T.flatMap edges3 ∨ ∃ y, (q, p, y) ∈ G
  pin : ∀ v, Pin T G v
theorem edges3_V {t : Tr} {x y : Int} (h : (x, y, 0) ∈ edges3 t) : hasV t x ∧ hasV t y := ⟨(edges3_has h).1, (edges3_has h).2.1⟩
theorem get_some {T : List Tr} {i : Nat} {t : Tr} (h : T[i]? = some t) : T.getD i (0, 0, 0) = t := by simp [List.getD, h]
theorem get_old {T : List Tr} {i : Nat} {s : Tr} (h : T[i]? = some s) (τ : Tr) : (T ++ [τ])[i]? = some s := by
  rw [List.getElem?_append_left (List.getElem?_eq_some_iff.1 h).1, h]
theorem get_new (T : List Tr) (τ : Tr) : (T ++ [τ])[T.length]? = some τ := by simp
theorem get_case {T : List Tr} {i : Nat} {s τ : Tr} (h : (T ++ [τ])[i]? = some s) : T[i]? = some s ∨ (i = T.length ∧ s = τ) := by
  by_cases hi : i < T.length
  · rw [List.getElem?_append_left hi] at h
    exact .inl h
  · rw [List.getElem?_append_right (by omega)] at h
    have h1 := (List.getElem?_eq_some_iff.1 h).1
    simp at h1
    have h2 : i = T.length := by omega
    subst h2
    simp at h
    exact .inr ⟨rfl, h.symm⟩
theorem mem_owner {T : List Tr} {e : Tr} (h : e ∈ T.flatMap edges3) : ∃ (i : Nat) (s : Tr), T[i]? = some s ∧ e ∈ edges3 s := by
  obtain ⟨s, hs, he⟩ := List.mem_flatMap.1 h
  obtain ⟨i, hi, e2⟩ := List.getElem_of_mem hs
  exact ⟨i, s, by rw [List.getElem?_eq_getElem hi, e2], he⟩
section
variable {N : Nat} {T G G' : List Tr} {τ : Tr}
/-- What is closed in the whole is closed in the part, if each old gap is bridged. -/
theorem Cl.old {v : Int} {S : Nat → Prop} (h : Cl (T ++ [τ]) G' v S) (hg : ∀ i k, GapAt T G v i k → (S i ↔ S k)) : Cl T G v S where
  adj := fun i k hi ha h1 h2 => by
    obtain ⟨a, b, x, e1, e2, e3, e4, e5⟩ := ha
    refine h.adj i k hi ⟨a, b, x, get_old e1 τ, get_old e2 τ, e3, e4, e5⟩ ?_ ?_
    · rw [get_some (get_old e1 τ)]; rw [get_some e1] at h1; exact h1
    · rw [get_some (get_old e2 τ)]; rw [get_some e2] at h2; exact h2
  gap := hg
/-- Two triangles that have another vertex in common. -/
theorem Cl.beside {v y : Int} {S : Nat → Prop} (h : Cl T G v S) {i k : Nat} {s t : Tr} (hi : T[i]? = some s) (hk : T[k]? = some t) (h1 : hasV s v) (h2 : hasV t v) (hy : y ≠ v) (h3 : hasV s y) (h4 : hasV t y) : S i ↔ S k :=
  ⟨fun hs => h.adj i k hs ⟨s, t, y, hi, hk, hy, h3, h4⟩ (by rw [get_some hi]; exact h1) (by rw [get_some hk]; exact h2),
   fun hs => h.adj k i hs ⟨t, s, y, hk, hi, hy, h4, h3⟩ (by rw [get_some hk]; exact h2) (by rw [get_some hi]; exact h1)⟩
theorem Cl.mono {v : Int} {S : Nat → Prop} (h : Cl T G v S) (hs : ∀ g ∈ G', g ∈ G) : Cl T G' v S :=
  ⟨h.adj, fun i k ⟨x, y, s, t, hm, r⟩ => h.gap i k ⟨x, y, s, t, hs _ hm, r⟩⟩
/-- From the part to the whole: the new triangle hangs at an old one wherever there are any. -/
theorem Pin.new {v : Int} (hp : Pin T G v) (hg : ∀ S, Cl (T ++ [τ]) G' v S → ∀ i k, GapAt T G v i k → (S i ↔ S k))
    (hn : ∀ S, Cl (T ++ [τ]) G' v S → hasV τ v → (∃ (i : Nat) (s : Tr), T[i]? = some s ∧ hasV s v ∧ (S i ↔ S T.length)) ∨ ∀ (i : Nat) (s : Tr), T[i]? = some s → ¬ hasV s v) : Pin (T ++ [τ]) G' v := by
  intro S hS i k s t hi hk h1 h2 h3
  have ho := hS.old (hg S hS)
  have key : ∀ (i k : Nat) (s t : Tr), T[i]? = some s → T[k]? = some t → hasV s v → hasV t v → S i → S k := fun i k s t a b c d e => hp S ho i k s t a b c d e
  rcases get_case hi with hi' | ⟨rfl, rfl⟩ <;> rcases get_case hk with hk' | ⟨rfl, rfl⟩
  · exact key i k s t hi' hk' h1 h2 h3
  · rcases hn S hS h2 with ⟨j, r, hj, hr, e⟩ | hno
    · exact e.1 (key i j s r hi' hj h1 hr h3)
    · exact absurd h1 (hno i s hi')
  · rcases hn S hS h1 with ⟨j, r, hj, hr, e⟩ | hno
    · exact key j k r t hj hk' hr h2 (e.2 h3)
    · exact absurd h2 (hno k t hk')
  · exact h3
theorem mem_old {e : Tr} (h : e ∈ T.flatMap edges3) (τ : Tr) : e ∈ (T ++ [τ]).flatMap edges3 := by
  rw [List.flatMap_append]
  exact List.mem_append_left _ h
theorem mem_new {e : Tr} (h : e ∈ edges3 τ) (T : List Tr) : e ∈ (T ++ [τ]).flatMap edges3 := by
  rw [List.flatMap_append]
  exact List.mem_append_right _ (by simpa using h)
theorem mem_case {e : Tr} (h : e ∈ (T ++ [τ]).flatMap edges3) : e ∈ T.flatMap edges3 ∨ e ∈ edges3 τ := by
  rw [List.flatMap_append] at h
  rcases List.mem_append.1 h with h | h
  · exact .inl h
  · exact .inr (by simpa using h)
end
section
variable {N : Nat} {T R : List Tr} {a b u : Int} {p q r : List Int}
/-- A triangle over a vertex of the loop: the loop falls in two. -/
theorem ZG.split (h : ZG N T (gapsL (a :: b :: p ++ u :: q) ++ R)) (hab : a ≠ b) (hua : u ≠ a) (hub : u ≠ b) : ZG N (T ++ [(u, a, b)]) (gapsL (a :: u :: q) ++ gapsL (u :: b :: p) ++ R) := by
  rw [gaps_old] at h
  rw [gaps_A, gaps_A]
  have oz := h.opn (q.getLastD u) a b (by simp)
  have ob := h.opn a b (p.headD u) (by simp)
  have ou := h.opn (p.getLastD b) u (q.headD a) (by simp)
  have hrg : ∀ x y, (x, y, 0) ∈ T.flatMap edges3 → (0 ≤ x ∧ x < (N : Int)) ∧ 0 ≤ y ∧ y < (N : Int) := fun x y hm => by
    obtain ⟨i, s, hs, he⟩ := mem_owner hm
    have := List.mem_of_getElem? hs
    exact ⟨h.rng s this x (edges3_V he).1, h.rng s this y (edges3_V he).2⟩
  refine ⟨?_, ?_, ?_, ?_, ?_, ?_⟩
  · intro t ht x hx
    rcases List.mem_append.1 ht with ht | ht
    · exact h.rng t ht x hx
    · rw [List.mem_singleton.1 ht] at hx
      rcases hx with e | e | e
      · rw [e]; exact (hrg _ _ ou.1).1
      · rw [e]; exact (hrg _ _ oz.1).1
      · rw [e]; exact (hrg _ _ ob.1).1
  · intro x h0 h1
    obtain ⟨t, ht, hx⟩ := h.lone x h0 h1
    exact ⟨t, List.mem_append_left _ ht, hx⟩
  · intro t ht
    rcases List.mem_append.1 ht with ht | ht
    · exact h.sim t ht
    · rw [List.mem_singleton.1 ht]
      exact ⟨hua, hab, fun e => hub e.symm⟩
  · intro x v y hm
    have n1 : (u, a, 0) ∈ (T ++ [(u, a, b)]).flatMap edges3 := mem_new (by simp [edges3]) T
    have n2 : (b, u, 0) ∈ (T ++ [(u, a, b)]).flatMap edges3 := mem_new (by simp [edges3]) T
    simp only [List.mem_append, List.mem_cons, Prod.mk.injEq] at hm
    rcases hm with ((⟨rfl, rfl, rfl⟩ | ⟨rfl, rfl, rfl⟩ | hm) | ⟨rfl, rfl, rfl⟩ | ⟨rfl, rfl, rfl⟩ | hm) | hm
    · exact ⟨mem_old oz.1 _, n1⟩
    · exact ⟨n1, mem_old ou.2 _⟩
    · exact (h.opn x v y (by simp [hm])).imp (fun e => mem_old e _) (fun e => mem_old e _)
    · exact ⟨mem_old ou.1 _, n2⟩
    · exact ⟨n2, mem_old ob.2 _⟩
    · exact (h.opn x v y (by simp [hm])).imp (fun e => mem_old e _) (fun e => mem_old e _)
    · exact (h.opn x v y (by simp [hm])).imp (fun e => mem_old e _) (fun e => mem_old e _)
  · intro x y hm
    rcases mem_case hm with hm | hm
    · rcases h.clo x y hm with hc | ⟨z, hc⟩
      · exact .inl (mem_old hc _)
      · simp only [List.mem_append, List.mem_cons, Prod.mk.injEq] at hc
        rcases hc with (⟨rfl, rfl, rfl⟩ | ⟨rfl, rfl, rfl⟩ | hc | ⟨rfl, rfl, rfl⟩ | hc) | hc
        · exact .inr ⟨u, by simp⟩
        · exact .inl (mem_new (by simp [edges3]) T)
        · exact .inr ⟨z, by simp [hc]⟩
        · exact .inr ⟨b, by simp⟩
        · exact .inr ⟨z, by simp [hc]⟩
        · exact .inr ⟨z, by simp [hc]⟩
    · simp only [edges3, List.mem_cons, Prod.mk.injEq, and_true, List.not_mem_nil, or_false] at hm
      rcases hm with ⟨rfl, rfl⟩ | ⟨rfl, rfl⟩ | ⟨rfl, rfl⟩
      · exact .inr ⟨q.headD y, by simp⟩
      · exact .inl (mem_old oz.2 _)
      · exact .inr ⟨p.headD y, by simp⟩
  · intro v
    have nu : hasV ((u, a, b) : Tr) u := .inl rfl
    have na : hasV ((u, a, b) : Tr) a := .inr (.inl rfl)
    have nb : hasV ((u, a, b) : Tr) b := .inr (.inr rfl)
    have g0 := get_new T (u, a, b)
    -- the links of the new triangle
    have la : ∀ S, Cl (T ++ [(u, a, b)]) ((q.getLastD u, a, u) :: (a, u, q.headD a) :: gp u q a ++ (p.getLastD b, u, b) :: (u, b, p.headD u) :: gp b p u ++ R) a S → (∀ (i : Nat) (s : Tr), T[i]? = some s → (a, q.getLastD u, 0) ∈ edges3 s → (S i ↔ S T.length)) ∧ (∀ (k : Nat) (t : Tr), T[k]? = some t → (b, a, 0) ∈ edges3 t → (S T.length ↔ S k)) := fun S hS =>
      ⟨fun i s hi he => hS.gap _ _ ⟨_, u, s, (u, a, b), by simp, get_old hi _, g0, he, by simp [edges3]⟩,
       fun k t hk he => hS.beside g0 (get_old hk _) na (edges3_V he).2 (fun e => hab e.symm) nb (edges3_V he).1⟩
    have lb : ∀ S, Cl (T ++ [(u, a, b)]) ((q.getLastD u, a, u) :: (a, u, q.headD a) :: gp u q a ++ (p.getLastD b, u, b) :: (u, b, p.headD u) :: gp b p u ++ R) b S → (∀ (i : Nat) (s : Tr), T[i]? = some s → (b, a, 0) ∈ edges3 s → (S i ↔ S T.length)) ∧ (∀ (k : Nat) (t : Tr), T[k]? = some t → (p.headD u, b, 0) ∈ edges3 t → (S T.length ↔ S k)) := fun S hS =>
      ⟨fun i s hi he => hS.beside (get_old hi _) g0 (edges3_V he).1 nb hab (edges3_V he).2 na,
       fun k t hk he => hS.gap _ _ ⟨u, _, (u, a, b), t, by simp, g0, get_old hk _, by simp [edges3], he⟩⟩
    have lu : ∀ S, Cl (T ++ [(u, a, b)]) ((q.getLastD u, a, u) :: (a, u, q.headD a) :: gp u q a ++ (p.getLastD b, u, b) :: (u, b, p.headD u) :: gp b p u ++ R) u S → (∀ (i : Nat) (s : Tr), T[i]? = some s → (u, p.getLastD b, 0) ∈ edges3 s → (S i ↔ S T.length)) ∧ (∀ (k : Nat) (t : Tr), T[k]? = some t → (q.headD a, u, 0) ∈ edges3 t → (S T.length ↔ S k)) := fun S hS =>
      ⟨fun i s hi he => hS.gap _ _ ⟨_, b, s, (u, a, b), by simp, get_old hi _, g0, he, by simp [edges3]⟩,
       fun k t hk he => hS.gap _ _ ⟨a, _, (u, a, b), t, by simp, g0, get_old hk _, by simp [edges3], he⟩⟩
    refine (h.pin v).new ?_ ?_
    · rintro S hS i k ⟨x, y, s, t, hm, hi, hk, he1, he2⟩
      have keep : (x, v, y) ∈ ((q.getLastD u, a, u) :: (a, u, q.headD a) :: gp u q a ++ (p.getLastD b, u, b) :: (u, b, p.headD u) :: gp b p u ++ R) → (S i ↔ S k) := fun hm => hS.gap i k ⟨x, y, s, t, hm, get_old hi _, get_old hk _, he1, he2⟩
      simp only [List.mem_append, List.mem_cons, Prod.mk.injEq] at hm
      rcases hm with (⟨rfl, rfl, rfl⟩ | ⟨rfl, rfl, rfl⟩ | hm | ⟨rfl, rfl, rfl⟩ | hm) | hm
      · obtain ⟨l1, l2⟩ := la S hS
        exact (l1 i s hi he1).trans (l2 k t hk he2)
      · obtain ⟨l1, l2⟩ := lb S hS
        exact (l1 i s hi he1).trans (l2 k t hk he2)
      · exact keep (by simp [hm])
      · obtain ⟨l1, l2⟩ := lu S hS
        exact (l1 i s hi he1).trans (l2 k t hk he2)
      · exact keep (by simp [hm])
      · exact keep (by simp [hm])
    · intro S hS hv
      rcases hv with e | e | e
      · subst e
        obtain ⟨i, s, hi, he⟩ := mem_owner ou.1
        exact .inl ⟨i, s, hi, (edges3_V he).1, (lu S hS).1 i s hi he⟩
      · subst e
        obtain ⟨i, s, hi, he⟩ := mem_owner oz.1
        exact .inl ⟨i, s, hi, (edges3_V he).1, (la S hS).1 i s hi he⟩
      · subst e
        obtain ⟨i, s, hi, he⟩ := mem_owner ob.1
        exact .inl ⟨i, s, hi, (edges3_V he).1, (lb S hS).1 i s hi he⟩
/-- A triangle over a new vertex. -/
theorem ZG.grow (h : ZG N T (gapsL (a :: b :: r) ++ R)) (hab : a ≠ b) : ZG (N + 1) (T ++ [((N : Int), a, b)]) (gapsL (a :: (N : Int) :: b :: r) ++ R) := by
  rw [gaps_A] at h
  have e0 : gapsL (a :: (N : Int) :: b :: r) = (r.getLastD b, a, (N : Int)) :: (a, (N : Int), b) :: ((N : Int), b, r.headD a) :: gp b r a := by
    rw [gaps_A]
    have h1 : (b :: r).getLastD (N : Int) = r.getLastD b := List.getLastD_cons
    rw [h1]
    rfl
  rw [e0]
  have oz := h.opn (r.getLastD b) a b (by simp)
  have ob := h.opn a b (r.headD a) (by simp)
  have hrg : ∀ x y, (x, y, 0) ∈ T.flatMap edges3 → (0 ≤ x ∧ x < (N : Int)) ∧ 0 ≤ y ∧ y < (N : Int) := fun x y hm => by
    obtain ⟨i, s, hs, he⟩ := mem_owner hm
    have := List.mem_of_getElem? hs
    exact ⟨h.rng s this x (edges3_V he).1, h.rng s this y (edges3_V he).2⟩
  have ra := (hrg _ _ oz.1).1
  have rb := (hrg _ _ ob.1).1
  refine ⟨?_, ?_, ?_, ?_, ?_, ?_⟩
  · intro t ht x hx
    rcases List.mem_append.1 ht with ht | ht
    · have := h.rng t ht x hx
      omega
    · rw [List.mem_singleton.1 ht] at hx
      rcases hx with e | e | e
      · simp only at e; omega
      · simp only at e; omega
      · simp only at e; omega
  · intro x h0 h1
    by_cases hx : x < N
    · obtain ⟨t, ht, hx⟩ := h.lone x h0 hx
      exact ⟨t, List.mem_append_left _ ht, hx⟩
    · exact ⟨_, List.mem_append_right _ (List.mem_singleton_self _), .inl (by show x = (N : Int); omega)⟩
  · intro t ht
    rcases List.mem_append.1 ht with ht | ht
    · exact h.sim t ht
    · rw [List.mem_singleton.1 ht]
      refine ⟨?_, hab, ?_⟩
      · show (N : Int) ≠ a; omega
      · show b ≠ (N : Int); omega
  · intro x v y hm
    have n1 : ((N : Int), a, 0) ∈ (T ++ [((N : Int), a, b)]).flatMap edges3 := mem_new (by simp [edges3]) T
    have n2 : (b, (N : Int), 0) ∈ (T ++ [((N : Int), a, b)]).flatMap edges3 := mem_new (by simp [edges3]) T
    simp only [List.mem_append, List.mem_cons, Prod.mk.injEq] at hm
    rcases hm with (⟨rfl, rfl, rfl⟩ | ⟨rfl, rfl, rfl⟩ | ⟨rfl, rfl, rfl⟩ | hm) | hm
    · exact ⟨mem_old oz.1 _, n1⟩
    · exact ⟨n1, n2⟩
    · exact ⟨n2, mem_old ob.2 _⟩
    · exact (h.opn x v y (by simp [hm])).imp (fun e => mem_old e _) (fun e => mem_old e _)
    · exact (h.opn x v y (by simp [hm])).imp (fun e => mem_old e _) (fun e => mem_old e _)
  · intro x y hm
    rcases mem_case hm with hm | hm
    · rcases h.clo x y hm with hc | ⟨z, hc⟩
      · exact .inl (mem_old hc _)
      · simp only [List.mem_append, List.mem_cons, Prod.mk.injEq] at hc
        rcases hc with (⟨rfl, rfl, rfl⟩ | ⟨rfl, rfl, rfl⟩ | hc) | hc
        · exact .inr ⟨(N : Int), by simp⟩
        · exact .inl (mem_new (by simp [edges3]) T)
        · exact .inr ⟨z, by simp [hc]⟩
        · exact .inr ⟨z, by simp [hc]⟩
    · simp only [edges3, List.mem_cons, Prod.mk.injEq, and_true, List.not_mem_nil, or_false] at hm
      rcases hm with ⟨rfl, rfl⟩ | ⟨rfl, rfl⟩ | ⟨rfl, rfl⟩
      · exact .inr ⟨b, by simp⟩
      · exact .inl (mem_old oz.2 _)
      · exact .inr ⟨r.headD a, by simp⟩
  · intro v
    have na : hasV (((N : Int), a, b) : Tr) a := .inr (.inl rfl)
    have nb : hasV (((N : Int), a, b) : Tr) b := .inr (.inr rfl)
    have g0 := get_new T ((N : Int), a, b)
    have la : ∀ S, Cl (T ++ [((N : Int), a, b)]) ((r.getLastD b, a, (N : Int)) :: (a, (N : Int), b) :: ((N : Int), b, r.headD a) :: gp b r a ++ R) a S → (∀ (i : Nat) (s : Tr), T[i]? = some s → (a, r.getLastD b, 0) ∈ edges3 s → (S i ↔ S T.length)) ∧ (∀ (k : Nat) (t : Tr), T[k]? = some t → (b, a, 0) ∈ edges3 t → (S T.length ↔ S k)) := fun S hS =>
      ⟨fun i s hi he => hS.gap _ _ ⟨_, (N : Int), s, ((N : Int), a, b), by simp, get_old hi _, g0, he, by simp [edges3]⟩,
       fun k t hk he => hS.beside g0 (get_old hk _) na (edges3_V he).2 (fun e => hab e.symm) nb (edges3_V he).1⟩
    have lb : ∀ S, Cl (T ++ [((N : Int), a, b)]) ((r.getLastD b, a, (N : Int)) :: (a, (N : Int), b) :: ((N : Int), b, r.headD a) :: gp b r a ++ R) b S → (∀ (i : Nat) (s : Tr), T[i]? = some s → (b, a, 0) ∈ edges3 s → (S i ↔ S T.length)) ∧ (∀ (k : Nat) (t : Tr), T[k]? = some t → (r.headD a, b, 0) ∈ edges3 t → (S T.length ↔ S k)) := fun S hS =>
      ⟨fun i s hi he => hS.beside (get_old hi _) g0 (edges3_V he).1 nb hab (edges3_V he).2 na,
       fun k t hk he => hS.gap _ _ ⟨(N : Int), _, ((N : Int), a, b), t, by simp, g0, get_old hk _, by simp [edges3], he⟩⟩
    refine (h.pin v).new ?_ ?_
    · rintro S hS i k ⟨x, y, s, t, hm, hi, hk, he1, he2⟩
      have keep : (x, v, y) ∈ ((r.getLastD b, a, (N : Int)) :: (a, (N : Int), b) :: ((N : Int), b, r.headD a) :: gp b r a ++ R) → (S i ↔ S k) := fun hm => hS.gap i k ⟨x, y, s, t, hm, get_old hi _, get_old hk _, he1, he2⟩
      simp only [List.mem_append, List.mem_cons, Prod.mk.injEq] at hm
      rcases hm with (⟨rfl, rfl, rfl⟩ | ⟨rfl, rfl, rfl⟩ | hm) | hm
      · obtain ⟨l1, l2⟩ := la S hS
        exact (l1 i s hi he1).trans (l2 k t hk he2)
      · obtain ⟨l1, l2⟩ := lb S hS
        exact (l1 i s hi he1).trans (l2 k t hk he2)
      · exact keep (by simp [hm])
      · exact keep (by simp [hm])
    · intro S hS hv
      rcases hv with e | e | e
      · refine .inr fun i s hi hs => ?_
        have := h.rng s (List.mem_of_getElem? hi) v hs
        simp only at e
        omega
      · subst e
        obtain ⟨i, s, hi, he⟩ := mem_owner oz.1
        exact .inl ⟨i, s, hi, (edges3_V he).1, (la S hS).1 i s hi he⟩
      · subst e
        obtain ⟨i, s, hi, he⟩ := mem_owner ob.1
        exact .inl ⟨i, s, hi, (edges3_V he).1, (lb S hS).1 i s hi he⟩
/-- A loop of two is none. -/
theorem ZG.drop2 {x y : Int} (h : ZG N T (gapsL [x, y] ++ R)) : ZG N T R := by
  have e0 : gapsL [x, y] = [(y, x, y), (x, y, x)] := rfl
  rw [e0] at h
  have o1 := h.opn y x y (by simp)
  refine ⟨h.rng, h.lone, h.sim, fun x v y hm => h.opn x v y (by simp [hm]), ?_, ?_⟩
  · intro p q hm
    rcases h.clo p q hm with hc | ⟨z, hc⟩
    · exact .inl hc
    · simp only [List.mem_append, List.mem_cons, Prod.mk.injEq, List.not_mem_nil, or_false] at hc
      rcases hc with (⟨rfl, rfl, -⟩ | ⟨rfl, rfl, -⟩) | hc
      · exact .inl o1.2
      · exact .inl o1.1
      · exact .inr ⟨z, hc⟩
  · intro v S hS
    refine h.pin v S ⟨hS.adj, ?_⟩
    rintro i k ⟨x', y', s, t, hm, hi, hk, he1, he2⟩
    have hne : ∀ (i : Nat) (s : Tr), T[i]? = some s → ∀ p q, (p, q, 0) ∈ edges3 s → p ≠ q := fun i s hi p q he => by
      obtain ⟨a1, a2, a3⟩ := h.sim s (List.mem_of_getElem? hi)
      simp only [edges3, List.mem_cons, Prod.mk.injEq, and_true, List.not_mem_nil, or_false] at he
      rcases he with ⟨rfl, rfl⟩ | ⟨rfl, rfl⟩ | ⟨rfl, rfl⟩
      · exact a1
      · exact a2
      · exact a3
    simp only [List.mem_append, List.mem_cons, Prod.mk.injEq, List.not_mem_nil, or_false] at hm
    rcases hm with (⟨rfl, rfl, rfl⟩ | ⟨rfl, rfl, rfl⟩) | hm
    · exact hS.beside hi hk (edges3_V he1).1 (edges3_V he2).2 (hne k t hk _ _ he2) (edges3_V he1).2 (edges3_V he2).1
    · exact hS.beside hi hk (edges3_V he1).1 (edges3_V he2).2 (hne k t hk _ _ he2) (edges3_V he1).2 (edges3_V he2).1
    · exact hS.gap i k ⟨x', y', s, t, hm, hi, hk, he1, he2⟩
theorem ZG.gaps {G G' : List Tr} (h : ZG N T G) (hg : ∀ g, g ∈ G ↔ g ∈ G') : ZG N T G' :=
  ⟨h.rng, h.lone, h.sim, fun x v y hm => h.opn x v y ((hg _).2 hm), fun p q hm => (h.clo p q hm).imp id (fun ⟨y, hy⟩ => ⟨y, (hg _).1 hy⟩), fun v S hS => h.pin v S (hS.mono fun g hm => (hg g).1 hm)⟩
end
theorem edge_mem {T : List Tr} {c : Nat} (hc : c < 3 * T.length) : ((edgeN T c).1, (edgeN T c).2, 0) ∈ T.flatMap edges3 := List.mem_of_getElem? (edges_at hc)
theorem edge_at {T : List Tr} {x y : Int} (h : (x, y, 0) ∈ T.flatMap edges3) : ∃ o, o < 3 * T.length ∧ edgeN T o = (x, y) := by
  obtain ⟨i, s, hi, he⟩ := mem_owner h
  have hl := (List.getElem?_eq_some_iff.1 hi).1
  have ta : ∀ d, d / 3 = i → triAt T d = s := fun d hd => by unfold triAt; rw [hd, hi]; rfl
  have v0 : vertN T (3 * i) = s.1 := by unfold vertN; rw [if_pos (by omega), ta _ (by omega)]
  have v1 : vertN T (3 * i + 1) = s.2.1 := by unfold vertN; rw [if_neg (by omega), if_pos (by omega), ta _ (by omega)]
  have v2 : vertN T (3 * i + 2) = s.2.2 := by unfold vertN; rw [if_neg (by omega), if_neg (by omega), ta _ (by omega)]
  have n0 : Jor.nx (3 * i) = 3 * i + 1 := by unfold Jor.nx; omega
  have n1 : Jor.nx (3 * i + 1) = 3 * i + 2 := by unfold Jor.nx; omega
  have n2 : Jor.nx (3 * i + 2) = 3 * i := by unfold Jor.nx; omega
  have p0 : Jor.pv (3 * i) = 3 * i + 2 := by unfold Jor.pv; omega
  have p1 : Jor.pv (3 * i + 1) = 3 * i := by unfold Jor.pv; omega
  have p2 : Jor.pv (3 * i + 2) = 3 * i + 1 := by unfold Jor.pv; omega
  simp only [edges3, List.mem_cons, Prod.mk.injEq, and_true, List.not_mem_nil, or_false] at he
  rcases he with ⟨rfl, rfl⟩ | ⟨rfl, rfl⟩ | ⟨rfl, rfl⟩
  · exact ⟨3 * i + 2, by omega, by unfold edgeN; rw [n2, p2, v0, v1]⟩
  · exact ⟨3 * i, by omega, by unfold edgeN; rw [n0, p0, v1, v2]⟩
  · exact ⟨3 * i + 1, by omega, by unfold edgeN; rw [n1, p1, v2, v0]⟩
/-- Without a gap: a surface, closed. -/
theorem ZG.surf {N : Nat} {T : List Tr} (h : ZG N T []) (hE : (T.flatMap edges3).Nodup) (hK : (T.flatMap key3).Nodup) (hN : N ≤ 4096) (hT : T.length ≤ 8192) : Surf N T ∧ ClosedT T := by
  refine ⟨⟨by omega, by omega, hT, fun t ht => in3_has.2 fun x hx => h.rng t ht x hx, h.sim, hE, hK, fun u hu => flatT_has.2 (h.lone u hu.1 hu.2), fun u _ => ?_⟩, ?_⟩
  · refine ConnV.of_any fun i hi k hk => ?_
    obtain ⟨s, h1, h2⟩ := atV_mem.1 hi
    obtain ⟨t, h3, h4⟩ := atV_mem.1 hk
    intro S s0 sc
    refine h.pin u S ⟨fun i k hS ha h1 h2 => ?_, fun i k ⟨x, y, s, t, hm, _⟩ => by cases hm⟩ i k s t h1 h3 h2 h4 s0
    obtain ⟨a, b, x, e1, e2, r⟩ := ha
    rw [get_some e1] at h1
    rw [get_some e2] at h2
    exact sc i (atV_mem.2 ⟨a, e1, h1⟩) k (atV_mem.2 ⟨b, e2, h2⟩) hS ⟨a, b, x, e1, e2, r⟩
  · intro c hc
    have h1 : ((edgeN T c).1, (edgeN T c).2, 0) ∈ T.flatMap edges3 := edge_mem hc
    rcases h.clo _ _ h1 with h2 | ⟨y, h2⟩
    · obtain ⟨o, ho, e⟩ := edge_at h2
      have := (opp_iff hE hc).2 ⟨ho, e⟩
      omega
    · cases h2
end Go.Proofs.Ytpnkhgjjlionnaa
namespace Go.Proofs.Ytpnkhgjjlionnaa.Zp
open Go.RowKit

theorem zm_n9 {zs : List Int} (h : ref24M zs = true) : ((zmAt zs zs.length).n : Int) = 3 + cnt zs 67 := by
  have := (zinv_at h zs.length (Nat.le_refl _)).n
  rwa [List.take_length] at this
theorem loop_split {l : List Int} {i : Nat} (h2 : 2 ≤ i) (hi : i < l.length) : ∃ a b p u q, l = a :: b :: p ++ u :: q ∧ p.length + 2 = i := by
  match l, hi with
  | a :: b :: r, hi =>
    have hr : i - 2 < r.length := by simp at hi; omega
    refine ⟨a, b, r.take (i - 2), r[i - 2], r.drop (i - 2 + 1), ?_, by simp; omega⟩
    rw [List.cons_append, List.cons_append, ← List.drop_eq_getElem_cons hr, List.take_append_drop]
  | [], hi => simp at hi
  | [_], hi => simp at hi; omega
section
variable {a b u : Int} {p q : List Int}
theorem split_get (a b u : Int) (p q : List Int) {i : Nat} (hi : p.length + 2 = i) : (a :: b :: p ++ u :: q).getD i 0 = u ∧ (a :: b :: p ++ u :: q).getD 0 0 = a ∧ (a :: b :: p ++ u :: q).getD 1 0 = b := by
  subst hi
  refine ⟨?_, rfl, rfl⟩
  have : (a :: b :: p ++ u :: q)[p.length + 2]? = some u := by
    rw [List.getElem?_append_right (by simp)]
    simp
  simp only [List.getD, this, Option.getD_some]
theorem split_A (a b u : Int) (p q : List Int) {i : Nat} (hi : p.length + 2 = i) : (a :: b :: p ++ u :: q).take 1 ++ (a :: b :: p ++ u :: q).drop i = a :: u :: q := by
  subst hi
  have : (a :: b :: p ++ u :: q).drop (p.length + 2) = u :: q := by
    rw [List.drop_append_of_le_length (by simp)]
    simp
  rw [this]
  rfl
theorem split_B (a b u : Int) (p q : List Int) {i : Nat} (hi : p.length + 2 = i) : ((a :: b :: p ++ u :: q).drop i).take 1 ++ ((a :: b :: p ++ u :: q).take i).drop 1 = u :: b :: p := by
  subst hi
  have h1 : (a :: b :: p ++ u :: q).drop (p.length + 2) = u :: q := by
    rw [List.drop_append_of_le_length (by simp)]
    simp
  have h2 : (a :: b :: p ++ u :: q).take (p.length + 2) = a :: b :: p := by
    rw [List.take_append_of_le_length (by simp), List.take_of_length_le (by simp)]
  rw [h1, h2]
  rfl
end
theorem gapsS_cons (l : List Int) (Ls : List (List Int)) : gapsS (l :: Ls) = gapsL l ++ gapsS Ls := by simp [gapsS]
section
variable {zs : List Int} {k : Nat} {m : ZM}
/-- The last letter is an E, and nothing waits. -/
theorem ZInv.last (h : ZInv zs k m) (hk : k < zs.length) : k + 1 = zs.length ↔ zs.getD k 0 = 69 ∧ m.waits = [] := by
  have hs := h.st hk
  have hst := stAt_step zs k hk
  rw [hs, ← getD_getElem hk] at hst
  constructor
  · intro e
    rw [e, stAt_end] at hst
    simp only [Option.bind_some] at hst
    have hl := (step_letter hst.symm).1
    rcases hl with hc | hc | hc | hc | hc <;> rw [hc] at hst <;> simp [ref24Step] at hst
    exact ⟨hc, hst.2⟩
  · rintro ⟨hc, hw⟩
    refine Classical.byContradiction fun hne => ?_
    have hk1 : k + 1 < zs.length := by omega
    rw [hc, hw] at hst
    cases hq : stAt zs (k + 1) with
    | none => rw [hq] at hst; simp at hst
    | some q =>
      rw [hq] at hst
      simp [ref24Step] at hst
      have h6 := stAt_step zs (k + 1) hk1
      rw [hq, hst.2] at h6
      cases hq3 : stAt zs (k + 1 + 1) with
      | none => rw [hq3] at h6; simp at h6
      | some q3 =>
        rw [hq3] at h6
        exact (step_letter h6.symm).2 rfl
/-- The loops that are open ahead of a letter. -/
def opnS (zs : List Int) (k : Nat) (m : ZM) : List (List Int) := if k < zs.length then m.loop :: m.waits else []
theorem zg_next (h : ZInv zs k m) (hn : ZNod m) (hk : k < zs.length) (hz : ZG m.n m.T (gapsS (m.loop :: m.waits))) : ZG (nextM zs k m).n (nextM zs k m).T (gapsS (opnS zs (k + 1) (nextM zs k m))) := by
  have hlast := h.last hk
  obtain ⟨h1, -⟩ := h.len hk
  rw [gapsS_cons] at hz
  have more : zs.getD k 0 ≠ 69 → opnS zs (k + 1) (nextM zs k m) = (nextM zs k m).loop :: (nextM zs k m).waits := fun hne => by
    unfold opnS
    rw [if_pos]
    have : ¬ (k + 1 = zs.length) := fun e => hne (hlast.1 e).1
    omega
  rcases h.kind hk with ⟨hc, -, -⟩ | ⟨hc, -, h3, -⟩ | ⟨hc, -, h4, -⟩ | ⟨hc, -, h4, -⟩ | ⟨hc, i3, i4, -⟩
  · -- C
    rw [more (by rw [hc]; decide)]
    obtain ⟨a, b, r, e⟩ : ∃ a b r, m.loop = a :: b :: r := by
      match m.loop, h1 with
      | a :: b :: r, _ => exact ⟨a, b, r, rfl⟩
      | [], h => simp at h
      | [_], h => simp at h
    have hab : a ≠ b := by
      have := hn.1
      rw [e] at this
      exact fun e2 => (List.nodup_cons.1 this).1 (by rw [e2]; exact List.mem_cons_self ..)
    rw [e] at hz
    have := hz.grow hab
    rw [gapsS_cons]
    simp only [nextM, stepM, hc, if_true, e]
    exact this
  all_goals
    obtain ⟨i, hi⟩ : ∃ i, i = (if zs.getD k 0 = 83 then iAt zs k else if zs.getD k 0 = 76 then m.loop.length - 1 else 2) := ⟨_, rfl⟩
    simp only [hc, if_true, if_false, Int.reduceEq] at hi
    obtain ⟨a, b, p, u, q, e, hp⟩ := loop_split (l := m.loop) (i := i) (by omega) (by omega)
    have hll : m.loop.length = p.length + 2 + 1 + q.length := by rw [e]; simp; omega
    have hnd := hn.1
    rw [e] at hnd
    have hab : a ≠ b := fun e2 => (List.nodup_cons.1 hnd).1 (by rw [e2]; simp)
    have hua : u ≠ a := fun e2 => (List.nodup_cons.1 hnd).1 (by rw [← e2]; simp)
    have hub : u ≠ b := fun e2 => (List.nodup_cons.1 (List.nodup_cons.1 hnd).2).1 (by rw [← e2]; simp)
    rw [e] at hz
    have hs := hz.split hab hua hub
    rw [List.append_assoc] at hs
    obtain ⟨g1, g2, g3⟩ := split_get a b u p q hp
    have eA := split_A a b u p q hp
    have eB := split_B a b u p q hp
  · -- E
    obtain rfl : p = [] := List.eq_nil_of_length_eq_zero (by omega)
    obtain rfl : q = [] := List.eq_nil_of_length_eq_zero (by omega)
    have hz2 := (hs.drop2 (x := a) (y := u)).drop2 (x := u) (y := b)
    subst hi
    cases hw : m.waits with
    | nil =>
      have e9 : k + 1 = zs.length := hlast.2 ⟨hc, hw⟩
      have e8 : opnS zs (k + 1) (nextM zs k m) = [] := by unfold opnS; rw [if_neg (by omega)]
      rw [e8]
      rw [hw] at hz2
      simp only [nextM, stepM, hc, hw, if_false, Int.reduceEq, e]
      exact hz2
    | cons l r =>
      have e8 : opnS zs (k + 1) (nextM zs k m) = (nextM zs k m).loop :: (nextM zs k m).waits := by
        unfold opnS
        rw [if_pos]
        have : ¬ (k + 1 = zs.length) := fun e => by have := (hlast.1 e).2; rw [hw] at this; cases this
        omega
      rw [e8]
      rw [hw] at hz2
      simp only [nextM, stepM, hc, hw, if_false, Int.reduceEq, e]
      exact hz2
  · -- L
    obtain rfl : q = [] := List.eq_nil_of_length_eq_zero (by omega)
    have hz2 := hs.drop2 (x := a) (y := u)
    rw [more (by rw [hc]; decide), gapsS_cons]
    have e7 : m.loop.drop (m.loop.length - 1) ++ (m.loop.take (m.loop.length - 1)).drop 1 = u :: b :: p := by
      rw [← hi, e, ← eB]
      have : ((a :: b :: p ++ [u]).drop i).take 1 = (a :: b :: p ++ [u]).drop i := List.take_of_length_le (by simp; omega)
      rw [this]
    have e6 : m.loop.getD (m.loop.length - 1) 0 = u := by rw [← hi, e]; exact g1
    simp only [nextM, stepM, hc, if_true, if_false, Int.reduceEq, e7, e6]
    rw [e, g2, g3]
    exact hz2
  · -- R
    subst hi
    obtain rfl : p = [] := List.eq_nil_of_length_eq_zero (by omega)
    have hz2 := (hs.gaps (G' := gapsL [u, b] ++ (gapsL (a :: u :: q) ++ gapsS m.waits)) (fun g => by
      simp only [List.mem_append]
      constructor <;> rintro (h | h | h) <;> simp [h])).drop2
    rw [more (by rw [hc]; decide), gapsS_cons]
    simp only [nextM, stepM, hc, if_true, if_false, Int.reduceEq]
    rw [e, eA, g1, g2, g3]
    exact hz2
  · -- S
    subst hi
    rw [more (by rw [hc]; decide), gapsS_cons]
    simp only [nextM, stepM, hc, if_true, if_false, Int.reduceEq]
    rw [gapsS_cons, e, eA, eB, g1, g2, g3]
    exact hs
end
theorem zg_zero : ZG 3 [((0 : Int), (1 : Int), (2 : Int))] (gapsS [[1, 0, 2]]) := by
  have e : gapsS [[1, 0, 2]] = [(2, 1, 0), (1, 0, 2), (0, 2, 1)] := rfl
  rw [e]
  refine ⟨?_, ?_, ?_, ?_, ?_, ?_⟩
  · intro t ht x hx
    rw [List.mem_singleton.1 ht] at hx
    rcases hx with e | e | e
    · simp only at e; omega
    · simp only at e; omega
    · simp only at e; omega
  · intro x h0 h1
    refine ⟨_, List.mem_singleton_self _, ?_⟩
    show x = 0 ∨ x = 1 ∨ x = 2
    omega
  · intro t ht
    rw [List.mem_singleton.1 ht]
    exact ⟨by decide, by decide, by decide⟩
  · intro x v y hm
    simp only [List.mem_cons, Prod.mk.injEq, List.not_mem_nil, or_false] at hm
    rcases hm with ⟨rfl, rfl, rfl⟩ | ⟨rfl, rfl, rfl⟩ | ⟨rfl, rfl, rfl⟩ <;> simp [edges3]
  · intro p q hm
    simp only [List.flatMap_cons, List.flatMap_nil, List.append_nil, edges3, List.mem_cons, Prod.mk.injEq, and_true, List.not_mem_nil, or_false] at hm
    rcases hm with ⟨rfl, rfl⟩ | ⟨rfl, rfl⟩ | ⟨rfl, rfl⟩
    · exact .inr ⟨2, by simp⟩
    · exact .inr ⟨0, by simp⟩
    · exact .inr ⟨1, by simp⟩
  · intro v S hS i k s t hi hk _ _ h
    have h1 := (List.getElem?_eq_some_iff.1 hi).1
    have h2 := (List.getElem?_eq_some_iff.1 hk).1
    simp at h1 h2
    subst h1 h2
    exact h
theorem zg_at {zs : List Int} (h : ref24M zs = true) : ∀ k, k ≤ zs.length → ZG (zmAt zs k).n (zmAt zs k).T (gapsS (opnS zs k (zmAt zs k))) := by
  have hpos : 0 < zs.length := by
    cases zs with
    | nil => exact absurd h (by decide)
    | cons _ _ => simp
  intro k
  induction k with
  | zero =>
    intro _
    have : opnS zs 0 (zmAt zs 0) = [[1, 0, 2]] := by unfold opnS; rw [if_pos hpos]; rfl
    rw [this]
    exact zg_zero
  | succ k ih =>
    intro hk
    have hz := ih (by omega)
    have : opnS zs k (zmAt zs k) = (zmAt zs k).loop :: (zmAt zs k).waits := by unfold opnS; rw [if_pos (by omega)]
    rw [this] at hz
    exact zg_next (zinv_at h k (by omega)) (znod_at h k (by omega)) (by omega) hz
theorem edgesOf_3 (T : List Tr) (x y : Int) : (x, y) ∈ edgesOf T ↔ (x, y, 0) ∈ T.flatMap edges3 := by
  unfold edgesOf edges3
  rw [List.mem_flatMap, List.mem_flatMap]
  constructor
  · rintro ⟨t, ht, h⟩
    refine ⟨t, ht, ?_⟩
    simpa using h
  · rintro ⟨t, ht, h⟩
    refine ⟨t, ht, ?_⟩
    simpa using h
theorem nodup_fits {zs : List Int} (hf : ∀ k, k < zs.length → fitsAt zs k = true) : ∀ k, k ≤ zs.length → ((zmAt zs k).T.flatMap edges3).Nodup ∧ ((zmAt zs k).T.flatMap key3).Nodup := by
  intro k
  induction k with
  | zero => intro _; exact ⟨show ([((0 : Int), (1 : Int), (2 : Int))].flatMap edges3).Nodup by decide, show ([((0 : Int), (1 : Int), (2 : Int))].flatMap key3).Nodup by decide⟩
  | succ k ih =>
    intro hk
    obtain ⟨h1, h2⟩ := ih (by omega)
    have h3 := hf k (by omega)
    unfold fitsAt fitsM at h3
    simp only [Bool.and_eq_true, decide_eq_true_eq, List.mem_cons, Prod.mk.injEq, not_or] at h3
    obtain ⟨⟨⟨a1, a2⟩, a3, a4⟩, a5, a6, a7⟩ := h3
    rw [edgesOf_3] at a2 a4 a7
    rw [zmAt_T, List.flatMap_append, List.flatMap_append]
    constructor
    · rw [List.nodup_append]
      refine ⟨h1, ?_, fun x hx y hy e => ?_⟩
      · simp only [List.flatMap_cons, List.flatMap_nil, List.append_nil, edges3, List.nodup_cons, List.mem_cons, Prod.mk.injEq, and_true, List.not_mem_nil, or_false, not_or, List.nodup_nil, not_false_eq_true]
        exact ⟨⟨fun e => a3 ⟨e.1.symm, e.2.symm⟩, fun e => a6 ⟨e.1.symm, e.2.symm⟩⟩, fun e => a5 ⟨e.1.symm, e.2.symm⟩⟩
      · subst e
        simp only [List.flatMap_cons, List.flatMap_nil, List.append_nil, edges3, List.mem_cons, List.not_mem_nil, or_false] at hy
        rcases hy with rfl | rfl | rfl
        · exact a2 hx
        · exact a4 hx
        · exact a7 hx
    · rw [List.nodup_append]
      refine ⟨h2, by simp [key3], fun x hx y hy e => ?_⟩
      subst e
      simp only [List.flatMap_cons, List.flatMap_nil, List.append_nil, key3, List.mem_singleton] at hy
      rw [hy] at hx
      refine a1 ?_
      obtain ⟨t, ht, hx⟩ := List.mem_flatMap.1 hx
      refine List.mem_map.2 ⟨t, ht, ?_⟩
      have := List.mem_singleton.1 hx
      exact this.symm
/-- Each triangle lies at one ahead of it. -/
theorem zip_conn {zs : List Int} (h : ref24M zs = true) {k : Nat} (hk : k < zs.length) : ((triAt zs k).2.2, (triAt zs k).2.1, 0) ∈ (zmAt zs k).T.flatMap edges3 := by
  have hz := zg_at h k (by omega)
  have : opnS zs k (zmAt zs k) = (zmAt zs k).loop :: (zmAt zs k).waits := by unfold opnS; rw [if_pos hk]
  rw [this, gapsS_cons] at hz
  obtain ⟨h1, -⟩ := (zinv_at h k (by omega)).len hk
  obtain ⟨a, b, r, e⟩ : ∃ a b r, (zmAt zs k).loop = a :: b :: r := by
    match (zmAt zs k).loop, h1 with
    | a :: b :: r, _ => exact ⟨a, b, r, rfl⟩
    | [], h => simp at h
    | [_], h => simp at h
  unfold triAt
  rw [e] at hz ⊢
  rw [gaps_A] at hz
  exact (hz.opn (r.getLastD b) a b (by simp)).2
theorem zip_get {zs : List Int} {k n : Nat} (hk : k < n) : (zmAt zs n).T[k + 1]? = some (triAt zs k) := by
  have h1 := zmAt_T_take zs (show k + 1 ≤ n from hk)
  have h2 : ((zmAt zs n).T.take (k + 1 + 1))[k + 1]? = some (triAt zs k) := by
    rw [h1, zmAt_T]
    have := zmAt_T_len zs k
    rw [List.getElem?_append_right (by omega), show k + 1 - (zmAt zs k).T.length = 0 from by omega]
    rfl
  rw [List.getElem?_take] at h2
  split at h2
  · exact h2
  · cases h2
/-- What is zipped is a simple surface. -/
theorem zip_simp {zs : List Int} (h : ref24M zs = true) (hf : ∀ k, k < zs.length → fitsAt zs k = true) (hl : zs.length ≤ 4000) : Simp ((zmAt zs zs.length).n : Int) (zmAt zs zs.length).T := by
  obtain ⟨hE, hK⟩ := nodup_fits hf zs.length (Nat.le_refl _)
  have hz := zg_at h zs.length (Nat.le_refl _)
  have e0 : opnS zs zs.length (zmAt zs zs.length) = [] := by unfold opnS; rw [if_neg (by omega)]
  rw [e0] at hz
  have hN := zm_n9 h
  have hT := zmAt_T_len zs zs.length
  have hc := cnt_le zs 67
  obtain ⟨r1, r2, r3, r4, r5⟩ := right_counts h
  obtain ⟨hS, hC⟩ := ZG.surf hz hE hK (by omega) (by omega)
  refine ⟨hS, hC, fun S s0 sc => ?_, by omega, by omega⟩
  have key : ∀ j, j ≤ zs.length → ∀ i, i ≤ j → S i := by
    intro j
    induction j with
    | zero => intro _ i hi; rw [show i = 0 from by omega]; exact s0
    | succ j ih =>
      intro hj i hi
      by_cases hij : i ≤ j
      · exact ih (by omega) i hij
      · obtain rfl : i = j + 1 := by omega
        have h1 := zip_conn h (k := j) (by omega)
        have h2 : ((triAt zs j).2.2, (triAt zs j).2.1, 0) ∈ ((zmAt zs zs.length).T.take (j + 1)).flatMap edges3 := by rw [zmAt_T_take zs (by omega)]; exact h1
        obtain ⟨o, ho, eo⟩ := edge_at h2
        rw [List.length_take] at ho
        have hol : o < 3 * (zmAt zs zs.length).T.length := by omega
        have eo2 : edgeN (zmAt zs zs.length).T o = ((triAt zs j).2.2, (triAt zs j).2.1) := by
          rw [← eo]
          have hv : ∀ d, d < 3 * (j + 1) → vertN ((zmAt zs zs.length).T.take (j + 1)) d = vertN (zmAt zs zs.length).T d := fun d hd => by
            unfold vertN Proofs.Ytpnkhgjjlionnaa.triAt
            rw [List.getElem?_take_of_lt (by omega)]
          unfold edgeN
          rw [hv _ (by unfold Jor.nx; omega), hv _ (by unfold Jor.pv; omega)]
        -- the corner that faces the gate
        have hg := zip_get (zs := zs) (k := j) (n := zs.length) (by omega)
        have hcl : 3 * (j + 1) < 3 * (zmAt zs zs.length).T.length := by omega
        have ec : edgeN (zmAt zs zs.length).T (3 * (j + 1)) = ((triAt zs j).2.1, (triAt zs j).2.2) := by
          have ta : ∀ d, d / 3 = j + 1 → Proofs.Ytpnkhgjjlionnaa.triAt (zmAt zs zs.length).T d = triAt zs j := fun d hd => by unfold Proofs.Ytpnkhgjjlionnaa.triAt; rw [hd, hg]; rfl
          have n0 : Jor.nx (3 * (j + 1)) = 3 * (j + 1) + 1 := by unfold Jor.nx; omega
          have p0 : Jor.pv (3 * (j + 1)) = 3 * (j + 1) + 2 := by unfold Jor.pv; omega
          unfold edgeN vertN
          rw [n0, p0, if_neg (by omega), if_pos (by omega), if_neg (by omega), if_neg (by omega), ta _ (by omega), ta _ (by omega)]
        have hop : oppN (zmAt zs zs.length).T o = 3 * (j + 1) := by
          have := (opp_iff hE hol (o := 3 * (j + 1))).2 ⟨hcl, by rw [ec, eo2]⟩
          unfold oppN
          rw [this]
          omega
        have := sc o hol (ih (by omega) (o / 3) (by omega))
        rw [hop, show 3 * (j + 1) / 3 = j + 1 from by omega] at this
        exact this
  exact fun t ht => key zs.length (Nat.le_refl _) t (by omega)
end Go.Proofs.Ytpnkhgjjlionnaa.Zp
namespace Go.Proofs.Ytpnkhgjjlionnaa
open Go.RowKit

/-- Of the blocks that lay there only those of S may be others now. -/
structure Kept (S : Nat → Prop) (w w' : World) : Prop where
  os : w'.os = w.os
  tape : w'.tape = w.tape
  output : w'.output = w.output
  size : w.heap.size ≤ w'.heap.size
  block : ∀ k, k < w.heap.size → ¬ S k → w'.heap[k]? = w.heap[k]?
section
variable {S S' : Nat → Prop} {a b c w w' : World}
theorem Kept.refl (S : Nat → Prop) (w : World) : Kept S w w := ⟨rfl, rfl, rfl, Nat.le_refl _, fun _ _ _ => rfl⟩
theorem Kept.trans (h : Kept S a b) (k : Kept S b c) : Kept S a c :=
  ⟨k.os.trans h.os, k.tape.trans h.tape, k.output.trans h.output, Nat.le_trans h.size k.size, fun i hi hs => (k.block i (Nat.lt_of_lt_of_le hi h.size) hs).trans (h.block i hi hs)⟩
theorem Kept.mono (h : Kept S w w') (hs : ∀ k, S k → S' k) : Kept S' w w' := ⟨h.os, h.tape, h.output, h.size, fun k hk hn => h.block k hk (fun x => hn (hs k x))⟩
theorem Kept.below {B : Nat} (h : Kept S w w') (hs : ∀ k, S k → B ≤ k) (hB : B ≤ w.heap.size) : Below B w w' := ⟨h.os, h.tape, h.output, h.size, fun k hk => h.block k (by omega) (fun x => by have := hs k x; omega)⟩
theorem Kept.alloc (h : Kept S a w) (o : Obj) : Kept S a (w.alloc o) :=
  ⟨h.os, h.tape, h.output, by rw [World.size_alloc]; have := h.size; omega, fun k hk hs => (Below.heap_alloc w o k (Nat.lt_of_lt_of_le hk h.size)).trans (h.block k hk hs)⟩
theorem Kept.setCell (h : Kept S a w) {p : Addr} (hp : S p.block ∨ a.heap.size ≤ p.block) (u : Value) : Kept S a (w.setCell p u) := by
  have hz : (w.setCell p u).heap.size = w.heap.size := by simp [World.setCell]
  exact ⟨h.os, h.tape, h.output, by rw [hz]; exact h.size, fun k hk hs => (Below.heap_setCell w p u k (fun e => by
    subst e
    rcases hp with hp | hp
    · exact hs hp
    · omega)).trans (h.block k hk hs)⟩
theorem Kept.grown (h : Kept S a w) {row : Option Nat} (hg : w.grownBy w' row) (hr : ∀ k, row = some k → S k ∨ a.heap.size ≤ k) : Kept S a w' :=
  ⟨hg.os.trans h.os, hg.tape.trans h.tape, hg.output.trans h.output, Nat.le_trans h.size hg.size, fun k hk hs => (hg.block k (Nat.lt_of_lt_of_le hk h.size) (fun e => by
    rcases hr k e.symm with x | x
    · exact hs x
    · omega)).trans (h.block k hk hs)⟩
theorem own_same {base n s : Nat} {e : TypeId} {v : Value} {xs : List Value} (h : w.ownsRow base e s v n xs) (hs : ∀ k, v.ownBlock = some k → w'.heap[k]? = w.heap[k]?) : w'.ownsRow base e s v n xs := by
  obtain ⟨h1, h2 | ⟨g, cap, cur, rfl, a1, a2, a3⟩⟩ := h
  · exact ⟨h1, .inl h2⟩
  · exact ⟨h1, .inr ⟨g, cap, cur, rfl, a1, (hs g rfl).trans a2, a3⟩⟩
theorem blk_same {q : Nat} {t : TypeId} {cs : Array Value} (h : Blk w q t cs) (hs : w'.heap[q]? = w.heap[q]?) : Blk w' q t cs := hs.trans h
end
end Go.Proofs.Ytpnkhgjjlionnaa
namespace Go.Proofs.Ytpnkhgjjlionnaa
open Go.RowKit Go.Maps

theorem cornI_rng {N : Int} {T : List Tr} (hS : Surf N T) {v : Int} (hv : 0 ≤ v ∧ v < N) : ∃ c : Nat, cornI N T v = (c : Int) ∧ c < 3 * T.length := by
  unfold cornI
  rw [if_pos hv]
  refine ⟨_, rfl, ?_⟩
  cases h : fstFrom T 0 v with
  | some c =>
    unfold fstFrom at h
    have := List.mem_of_find?_eq_some h
    have := List.mem_range'_1.1 this
    simp only [Option.getD_some]
    omega
  | none =>
    have := hS.lonely v hv
    have hp : T ≠ [] := by
      rintro rfl
      simp [flatT] at this
    have := List.length_pos_iff.2 hp
    simp only [Option.getD_none]
    omega
set_option maxHeartbeats 1000000 in
/-- genus.Of$1: the shell of a vertex. -/
theorem gat_any (g Bs Bt : Nat) (N v : Int) (T : List Tr) (out : List Int) (av : Option Addr) (cv base : Nat) (W : World) (hS : Surf N T) (hT : Tab W g N T) (hs : W.cell? ⟨Bs, 0, none⟩ = some (.slice av T.length cv)) (ht : W.cell? ⟨Bt, 0, none⟩ = some (.pointer (some ⟨g, 0, none⟩))) (_ls : Bs < W.heap.size) (_lt : Bt < W.heap.size)
    (hr : W.ownsRow base 3 1 (.slice av T.length cv) T.length (intsV out)) (hl : out.length = T.length) (hv : 0 ≤ v ∧ v < N) :
    Calls Try.prog 47 #[.int .i64 v, .pointer (some ⟨Bs, 0, none⟩), .pointer (some ⟨Bt, 0, none⟩)] W fun e w' => ∃ i : Nat, e = .returned (.int .i64 (at_ out i)) ∧ i < T.length ∧ Below W.heap.size W w' := by
  obtain ⟨c, hc, hlt⟩ := cornI_rng hS hv
  have H0 := Lib.hid (fun (W' : World) (hW : Below W.heap.size W W') => (show Calls Try.prog 48 #[.pointer (some ⟨g, 0, none⟩), .int .i64 v] W' fun e w' => e = .returned (.int .i64 (c : Int)) ∧ Below W'.heap.size W' w' from by
    have := corner_any g N v T W' (hT.below hW)
    rw [hc] at this
    exact this.mono fun e w' h => ⟨h.1, by rw [← h.2]; exact Below.refl _ _⟩))
  have hi : c / 3 < T.length := by omega
  have hcell : W.cell? (⟨(match av with | some a => a.block | none => 0), c / 3, none⟩ : Addr) = some (.int .i64 (at_ out (c / 3))) := by
    obtain ⟨g0, cap, e0, hg1, hg2⟩ := hr.form (by omega)
    cases e0
    rw [hr.cellAt (c / 3) (by omega)]
    exact intsV_at (by omega)
  obtain ⟨g0, cap, e0, hg1, hg2⟩ := hr.form (by omega)
  cases e0
  simp only at hcell
  have hl2 := hT.len
  obtain ⟨F, hF⟩ : ∃ F, T.length = F := ⟨_, rfl⟩
  rw [hF] at hs hi hl2 hlt ⊢
  have HI := Lib.hid hi
  have i3 : ((c / 3 : Nat) : Int) < (F : Int) := by omega
  have i4 : (c : Int).tdiv 3 = ((c / 3 : Nat) : Int) := by
    rw [Int.tdiv_eq_ediv_of_nonneg (by omega)]; rfl
  have i5 : (0 : Int) ≤ ((c / 3 : Nat) : Int) := by omega
  have q0 := cell_regrown hs
  have q1 := cell_regrown ht
  have q2 := cell_regrown hcell
  clear hr hT hS hF
  go_enter Try.func47, Try.ntmps47
  go_upto_region 1 with fail
  refine wp_region_quiet_below (by kernel_rfl) (by kernel_rfl) ?_
  repeat (go_big_quiet_step ((go_at_call 48; exact Calls.regrown_of (H0.out _ (below_regrown W _ _)))))
  refine wpQuiet_nil ?_
  intro _ hw'
  obtain ⟨⟨dq, osq⟩, hw''⟩ := hw'
  subst hw''
  have hB1 := below_regrown W dq osq
  generalize Sort.grow (redrawn W dq) osq = w1 at *
  go_wp2
  go_ret
  exact ⟨_, rfl, HI.out, hB1⟩
set_option maxHeartbeats 1000000 in
/-- Numbers.done. -/
theorem gdone_any (g o : Nat) (V F B tw z1 z4 z5 : Int) (W : World) (c0 : W.cell? ⟨g, o, none⟩ = some (.int .i64 V)) (c1 : W.cell? ⟨g, o + 1, none⟩ = some (.int .i64 z1)) (c2 : W.cell? ⟨g, o + 2, none⟩ = some (.int .i64 F)) (c3 : W.cell? ⟨g, o + 3, none⟩ = some (.int .i64 B)) (c4 : W.cell? ⟨g, o + 4, none⟩ = some (.int .i64 z4)) (c5 : W.cell? ⟨g, o + 5, none⟩ = some (.int .i64 z5))
    (fz : ∀ k, W.frozen? ⟨g, k, none⟩ = false) (_hg : g < W.heap.size) (hV : 0 ≤ V ∧ V ≤ 100000) (hF : 0 ≤ F ∧ F ≤ 100000) (hB : 0 ≤ B ∧ B ≤ 100000) (ht : 0 ≤ tw ∧ tw ≤ 100000) :
    Calls Try.prog 52 #[.pointer (some ⟨g, o, none⟩), .int .i64 tw] W fun e w' => (∃ v, e = .returned v) ∧ w' = (((W.setCell ⟨g, o + 1, none⟩ (.int .i64 (tw / 2))).setCell ⟨g, o + 4, none⟩ (.int .i64 (V - tw / 2 + F))).setCell ⟨g, o + 5, none⟩ (.int .i64 ((2 - B - (V - tw / 2 + F)).tdiv 2))).drew.drew := by
  have i4 : tw.tdiv 2 = tw / 2 := Int.tdiv_eq_ediv_of_nonneg (by omega)
  have f1 := fz (o + 1)
  have f4 := fz (o + 4)
  have f5 := fz (o + 5)
  go_enter Try.func52, Try.ntmps52
  go_wp2
  go_region
  go_wp2
  go_region
  go_end0
  exact ⟨⟨_, rfl⟩, rfl⟩
theorem made6 (m : Nat) : (madeCells (Value.agg #[.int .i64 0, .int .i64 0, .int .i64 0, .int .i64 0, .int .i64 0, .int .i64 0]).cells (m * 6)).toList = intsV (List.replicate (m * 6) 0) := by
  apply List.ext_getElem
  · simp [madeCells, intsV]
  · intro i h1 h2
    have h3 : i % 6 < 6 := Nat.mod_lt _ (by omega)
    simp only [madeCells, Value.cells, intsV, List.getElem_map, List.getElem_replicate, Array.toList_map, Array.toList_range, List.getElem_range, List.size_toArray, List.length_cons, List.length_nil, Nat.reduceAdd]
    have : ∀ j, j < 6 → (#[Value.int .i64 0, .int .i64 0, .int .i64 0, .int .i64 0, .int .i64 0, .int .i64 0] : Array Value)[j]! = .int .i64 0 := by
      intro j hj
      have : j = 0 ∨ j = 1 ∨ j = 2 ∨ j = 3 ∨ j = 4 ∨ j = 5 := by omega
      rcases this with rfl | rfl | rfl | rfl | rfl | rfl <;> rfl
    exact this _ h3
theorem infoNums : (Try.prog.info? 50).map (fun i => (i.zero, i.size, i.bytes)) = some (some (.agg #[.int .i64 0, .int .i64 0, .int .i64 0, .int .i64 0, .int .i64 0, .int .i64 0]), 6, 48) := by kernel_rfl
end Go.Proofs.Ytpnkhgjjlionnaa
