/-
  Texts joined by program, what the law uses alone: Shl10 Rf46 Rb46 Lw46 Alk Awk46.
-/
import Derived.Deep.DeepCutAuto
import Derived.Lib.QuietBelow
import Derived.Deep.QuietTactic
import Derived.BigQuiet
import Derived.Deep.RegionHeld3
import Derived.Test.YtghlnknncahkgaaGreatB7
import Derived.Test.YtghlnknncahkgaaGreatB6
import Derived.Test.YtghlnknncahkgaaGreatB4
namespace Go.Proofs.YtghlnknncahkgaaGreat
open Go.RowKit Go.Maps

theorem cnt_fin {T : List Tr} {out : List Int} {n : Nat} (hl : out.length = T.length) (h0 : n = 0 ∨ ∃ j, j < T.length ∧ at_ out j + 1 = (n : Int)) (h1 : ∀ j, j < T.length → at_ out j < (n : Int)) : (n : Int) = cntL out := by
  have hb := cntL_bd (out := out) (m := (n : Int)) (fun j hj => h1 j (by omega)) (by omega) out.length (Nat.le_refl _)
  rw [List.take_length] at hb
  rcases h0 with e | ⟨j, hj, e⟩
  · omega
  · have key : ∀ k, k ≤ out.length → ∀ i, i < k → at_ out i + 1 ≤ cntL (out.take k) := by
      intro k
      induction k with
      | zero => intro _ i hi; omega
      | succ k ih =>
        intro hk i hi
        rw [cntL_take (j := k) (out := out) (by omega)]
        by_cases e : i = k
        · subst e
          omega
        · have := ih (by omega) i (by omega)
          omega
    have := key out.length (Nat.le_refl _) j (by omega)
    rw [List.take_length] at this
    omega
set_option maxRecDepth 100000 in
set_option maxHeartbeats 4000000 in
theorem shells10_any (N : Int) (v : Value) (T : List Tr) (w : World) (h : TrisRd w v T) (hE : (T.flatMap edges3).Nodup) (hl : T.length ≤ 1000) :
    Calls Tryz.prog 47 #[.agg #[.int .i64 N, v]] w fun e w' => ∃ vO out m, e = .returned (.tuple #[vO, .int .i64 ((m : Nat) : Int)]) ∧ w'.ownsRow w.heap.size 3 1 vO T.length (intsV out) ∧ Shl T out ∧ (m : Int) = cntL out ∧ Below w.heap.size w w' := by
  obtain ⟨i2, hj2, b20, b21, b22⟩ := info_parts infoInt
  have hb1 := Blk.new w 24 #[.int .i64 N, v]
  have hB0 : Below w.heap.size w (w.alloc (.cells #[.int .i64 N, v] 24)) := (Below.refl _ _).alloc (Nat.le_refl _) _
  have HOp := Lib.hid (fun (k : Nat) (hk : k < 3 * T.length) (W : World) (hW : Below w.heap.size w W) => opp10_any N k v T W (h.below hW) hk (by omega))
  obtain ⟨aT, cT, rfl, -⟩ := h
  obtain ⟨F, hF⟩ : ∃ F, T.length = F := ⟨_, rfl⟩
  have HF := Lib.hid hF
  rw [hF] at hb1 hB0 HOp hl ⊢
  obtain ⟨l0, x0, -, x1, -⟩ := hb1.two
  have HB0 := Lib.hid hB0
  have HK := Lib.hid hb1
  have hz0 := hB0.size
  clear hb1 hB0 hF
  go_enter Tryz.func47, Tryz.ntmps47
  go_upto_region 1 with fail
  generalize w.alloc (.cells #[.int .i64 N, .slice aT F cT] 24) = w1 at *
  have hL2 := own_nil_blk (base := w1.heap.size) (Blk.new w1 3 #[]) (Nat.le_refl _)
  have hb2 : Below w1.heap.size w1 (w1.alloc (.cells #[] 3)) := (Below.refl w1.heap.size w1).alloc (Nat.le_refl _) (.cells #[] 3)
  have H2 := Lib.hid (And.intro hL2 hb2)
  clear hL2 hb2
  go_wp2
  clear x0 x1
  go_loopw [4, 5] (fun vL i wr => ∃ k : Nat, k ≤ F ∧ i = .int .i64 k ∧ wr.ownsRow w1.heap.size 3 1 vL k (intsV (List.replicate k (-1))) ∧ Below w1.heap.size w1 wr) (fun _ i _ => F - (intOf i).toNat)
  case atStart => exact ⟨0, Nat.zero_le _, rfl, H2.out.1, H2.out.2⟩
  case round =>
    rename World => wr
    obtain ⟨k, hk, rfl, hrL, hbr⟩ := hrel
    obtain ⟨l2, y0, -, y1, -⟩ := (HK.out.below hbr l0).two
    have hzr := hbr.size
    by_cases hlt : k < F
    · have hki : (k : Int) < (F : Int) := by omega
      have HA := Lib.hid (And.intro hrL hbr)
      have c6 : k + 1 ≤ maxLen := by unfold maxLen; omega
      have c7 : (k + 1) * 8 ≤ 140737488355328 := by omega
      have hrLa := own_below hrL ((Below.refl wr.heap.size wr).alloc (Nat.le_refl _) (.cells #[.int .i64 (-1)] 3))
      have HLa := Lib.hid hrLa
      clear hrL hbr hrLa
      go_upto_region 4 with (at_builtin; go_loud (refine wpList_append_lies _ rfl (.tmp 19) (.tmp 20) 28 rfl w1.heap.size 3 i2 _ 1 8 Tryz.underlying28 hj2 b20 b21 b22 rfl (by decide) _ _ _ rfl HLa.out ⟨wr.heap.size, 0, none⟩ 1 1 [.int .i64 (-1)] rfl rfl (World.news_of_block (heap_alloc_new _ _)) (by simp [Value.oneCell']) (by decide) c6 c7 (by simp; omega) (wr.heap.size + 1) (by simp) ?_); go_loud (intro g8 cap8 W8 hr8 hg8 hat8 hlt8))
      have hb8 := (HA.out.2.trans (((Below.refl wr.heap.size wr).alloc (Nat.le_refl _) (.cells #[.int .i64 (-1)] 3)).mono hzr)).grown hg8 (by simp; omega) (fun j e => (HLa.out.lt j e).1)
      have H8 := Lib.hid (And.intro hr8 hb8)
      clear hr8 hg8 hat8 hlt8 hb8
      go_wp2
      go_roundw
      case measure => simp [intOf]; omega
      case rel => exact ⟨k + 1, by omega, by go_num, by rw [rep_snoc]; exact H8.out.1, H8.out.2⟩
    · obtain rfl : F = k := by omega
      obtain ⟨aO, cO, rfl⟩ := ownsRow_slice hrL
      have HI0 := Lib.hid (show OfInv T 0 0 (List.replicate F (-1)) ∧ wr.ownsRow w1.heap.size 3 1 (.slice aO F cO) F (intsV (List.replicate F (-1))) ∧ Below w1.heap.size w1 wr from ⟨by rw [← HF.out]; exact OfInv.start T, hrL, hbr⟩)
      clear hrL hbr H2
      go_wp2
      clear y0 y1
      go_loopw [6, 7] (fun vn vt wx => ∃ (f n : Nat) (out : List Int), f ≤ F ∧ vn = .int .i64 (n : Int) ∧ vt = .int .i64 (f : Int) ∧ n ≤ f ∧ OfInv T f n out ∧ wx.ownsRow w1.heap.size 3 1 (.slice aO F cO) F (intsV out) ∧ Below w1.heap.size w1 wx) (fun _ vt _ => F - (intOf vt).toNat)
      case atStart => exact ⟨0, 0, _, Nat.zero_le _, rfl, rfl, Nat.le_refl _, HI0.out.1, HI0.out.2.1, HI0.out.2.2⟩
      case round =>
        clear HI0
        rename World => wx
        obtain ⟨f, n, out, hf, rfl, rfl, hnf, hI, hrO, hbx⟩ := hrel
        obtain ⟨l3, y0, -, y1, -⟩ := (HK.out.below hbx l0).two
        have hzx := hbx.size
        by_cases hfF : f < F
        · obtain ⟨gO, capO, eO, -, lO⟩ := hrO.form (by omega)
          cases eO
          have hfi : (f : Int) < (F : Int) := by omega
          have holen : out.length = F := by rw [hI.len, HF.out]
          have c0 : wx.cell? ⟨gO, f, none⟩ = some (.int .i64 (at_ out f)) := by
            rw [hrO.cellAt f (by omega), intsV_at (by omega)]
          have fz := hrO.frozenAt f
          by_cases h0 : 0 ≤ at_ out f
          · have HI := Lib.hid (And.intro (hI.skip h0) (And.intro hrO hbx))
            have h0b : decide (0 ≤ at_ out f) = true := by simpa using h0
            clear hI hrO hbx
            generalize at_ out f = af at *
            go_wp2
            go_roundw
            case measure => simp [intOf]; omega
            case rel => exact ⟨f + 1, n, out, by omega, by go_num, by go_num, by omega, HI.out.1, HI.out.2.1, HI.out.2.2⟩
          · have h0b : decide (0 ≤ at_ out f) = false := by simp; omega
            have hm := hI.mid (by rw [HF.out]; exact hfF) (by omega)
            have hst := hrO.stored f (.int .i64 (n : Int))
            rw [intsV_set9] at hst
            have hbs := hbx.grown hst.2 hbx.size (fun j e => by cases e; exact (hrO.lt gO rfl).1)
            have HI := Lib.hid hI
            have HM := Lib.hid (And.intro hm (And.intro hst.1 hbs))
            clear hI hrO hbx hm hst hbs h0
            generalize at_ out f = af at *
            have hni : (n : Int) ≤ 1000 := by omega
            go_wp2
            clear y0 y1 c0 fz
            go_loopg [8] (2 * F + 2) (fun gk b wy => ∃ (bb : Bool) (W : List Nat) (out' : List Int), b = .bool bb ∧ 2 * (F - W.length) + (if bb then 1 else 0) ≤ gk ∧ OfMid T f n out W out' ∧ wy.ownsRow w1.heap.size 3 1 (.slice (some ⟨gO, 0, none⟩) F cO) F (intsV out') ∧ Below w1.heap.size w1 wy ∧ (bb = false → ∀ c o : Nat, c < 3 * T.length → c / 3 ∈ W → oppI T (c : Int) = (o : Int) → o / 3 ∈ W))
            case atStart => exact ⟨true, [f], _, rfl, by simp; omega, HM.out.1, HM.out.2.1, HM.out.2.2, fun h => by cases h⟩
            case round =>
              clear HM
              rename World => wy
              obtain ⟨bb, W, out', rfl, hgk, hM, hrO, hby, hcl⟩ := hrel
              obtain ⟨l4, y0, -, y1, -⟩ := (HK.out.below hby l0).two
              cases bb with
              | false =>
                have hfi2 := hM.finish HI.out (by rw [HF.out]; exact hfF) (hcl rfl)
                have HN := Lib.hid (And.intro hfi2 (And.intro hrO hby))
                clear hfi2 hrO hby hM hcl hgk
                go_wp2
                go_roundw
                case measure => simp [intOf]; omega
                case rel => exact ⟨f + 1, n + 1, out', by omega, by go_num, by go_num, by omega, HN.out.1, HN.out.2.1, HN.out.2.2⟩
              | true =>
                have HM := Lib.hid (And.intro hM (And.intro hrO hby))
                have hWF := hM.small
                rw [HF.out] at hWF
                simp only [if_true] at hgk
                clear hM hrO hby hcl
                go_wp2
                clear y0 y1
                go_loopw [8, 9] (fun b i wz => ∃ (b2 : Bool) (c : Nat) (W2 : List Nat) (out2 : List Int), b = .bool b2 ∧ i = .int .i64 (c : Int) ∧ c ≤ 3 * F ∧ OfMid T f n out W2 out2 ∧ wz.ownsRow w1.heap.size 3 1 (.slice (some ⟨gO, 0, none⟩) F cO) F (intsV out2) ∧ Below w1.heap.size w1 wz ∧ W.length ≤ W2.length ∧ (b2 = true → W.length < W2.length) ∧ (b2 = false → ∀ c' o : Nat, c' < c → c' / 3 ∈ W2 → oppI T (c' : Int) = (o : Int) → o / 3 ∈ W2)) (fun _ i _ => 3 * F - (intOf i).toNat)
                case atStart => exact ⟨false, 0, W, out', rfl, rfl, by omega, HM.out.1, HM.out.2.1, HM.out.2.2, Nat.le_refl _, (fun h => by cases h), fun _ c' o h => absurd h (by omega)⟩
                case round =>
                  clear HM
                  rename World => wz
                  obtain ⟨b2, c, W2, out2, rfl, rfl, hc3, hM, hrO, hbz, hWl, hWt, hcl⟩ := hrel
                  obtain ⟨l5, y0, -, y1, -⟩ := (HK.out.below hbz l0).two
                  have hzz := hbz.size
                  by_cases hc : c < 3 * F
                  · have hcT : c < 3 * T.length := by rw [HF.out]; exact hc
                    obtain ⟨ct, hct⟩ : ∃ ct, c / 3 = ct := ⟨_, rfl⟩
                    have e3 : (c : Int) / 3 = (ct : Int) := by omega
                    have hc0 : (0 : Int) ≤ (c : Int) := by omega
                    have hc1 : (c : Int) ≤ 100000 := by omega
                    have hci : (c : Int) < 3 * (F : Int) := by omega
                    have hctF : ct < F := by omega
                    have hcti : (ct : Int) < (F : Int) := by omega
                    obtain ⟨x, hx⟩ : ∃ x, oppI T (c : Int) = x := ⟨_, rfl⟩
                    have hOc := HOp.out c hc wz (HB0.out.trans (hbz.mono hz0))
                    rw [hx] at hOc
                    have HOc := Lib.hid hOc
                    have Hx := Lib.hid (And.intro hx (And.intro hct hcT))
                    have HMz := Lib.hid (And.intro hM (And.intro hrO (And.intro hbz (And.intro hWl (And.intro hWt hcl)))))
                    clear hM hrO hbz hWl hWt hcl hx hct hOc hcT y0 y1 l5
                    obtain ⟨l5, y0, -, y1, -⟩ := (HK.out.below HMz.out.2.2.1 l0).two
                    go_upto_region 19 with (go_at_call 71; go_loud (with_reducible refine HOc.out.mono ?_; rintro e wa ⟨rfl, hba⟩))
                    obtain ⟨hM, hrO, hbz, hWl, hWt, hcl⟩ := HMz.out
                    obtain ⟨hx, hct, hcT⟩ := Hx.out
                    have hrOa := own_below hrO hba
                    have hbza := hbz.trans (hba.mono hzz)
                    have ho2 : out2.length = F := by rw [hM.len, HF.out]
                    have c1 : wa.cell? ⟨gO, ct, none⟩ = some (.int .i64 (at_ out2 ct)) := by
                      rw [hrOa.cellAt ct (by omega), intsV_at (by omega)]
                    by_cases hn : at_ out2 ct = (n : Int)
                    · have hmem : c / 3 ∈ W2 := by
                        rw [hct]
                        exact hM.mem HI.out (by rw [HF.out]; exact hctF) hn
                      rw [hn] at c1
                      rcases opp_cases T (c : Int) with h1 | ⟨o, h1, ho⟩
                      · have hx1 : x = -1 := hx.symm.trans h1
                        subst hx1
                        have HN := Lib.hid (And.intro hM (And.intro hrOa (And.intro hbza (show b2 = false → ∀ c' o : Nat, c' < c + 1 → c' / 3 ∈ W2 → oppI T (c' : Int) = (o : Int) → o / 3 ∈ W2 from fun hb c' o hc' hm ho => by
                          by_cases e : c' = c
                          · subst e
                            rw [h1] at ho
                            omega
                          · exact hcl hb c' o (by omega) hm ho))))
                        clear hM hrO hbz hcl hrOa hbza hx hct hcT h1 hmem hba
                        go_wp2
                        go_roundw
                        case measure => simp [intOf]; omega
                        case rel => exact ⟨b2, c + 1, W2, out2, rfl, by go_num, by omega, HN.out.1, HN.out.2.1, HN.out.2.2.1, hWl, hWt, HN.out.2.2.2⟩
                      · have hx1 : x = (o : Int) := hx.symm.trans h1
                        subst hx1
                        rw [HF.out] at ho
                        obtain ⟨ot, hot⟩ : ∃ ot, o / 3 = ot := ⟨_, rfl⟩
                        have hot3 : ot < F := by omega
                        have e3o : (o : Int) / 3 = (ot : Int) := by omega
                        have ho0 : (0 : Int) ≤ (o : Int) := by omega
                        have ho1 : (o : Int) ≤ 100000 := by omega
                        have hotI : (ot : Int) < (F : Int) := by omega
                        have c2 : wa.cell? ⟨gO, ot, none⟩ = some (.int .i64 (at_ out2 ot)) := by
                          rw [hrOa.cellAt ot (by omega), intsV_at (by omega)]
                        by_cases hneg : at_ out2 ot < 0
                        · have hngb : decide (at_ out2 ot < 0) = true := by simpa using hneg
                          have hadd := hM.add HI.out hcT hmem h1 (by rw [hot]; exact hneg)
                          rw [hot] at hadd
                          have hst := hrOa.stored ot (.int .i64 (n : Int))
                          rw [intsV_set9] at hst
                          have hbst := hbza.grown hst.2 hbza.size (fun j e => by cases e; exact (hrOa.lt gO rfl).1)
                          have fz := hrOa.frozenAt ot
                          have HN := Lib.hid (And.intro hadd (And.intro hst.1 hbst))
                          clear hM hrO hbz hcl hrOa hbza hx hct hcT h1 hmem hba hadd hst hbst hneg ho hot
                          generalize at_ out2 ot = ao at *
                          go_wp2
                          go_roundw
                          case measure => simp [intOf]; omega
                          case rel => exact ⟨true, c + 1, W2 ++ [ot], _, rfl, by go_num, by omega, HN.out.1, HN.out.2.1, HN.out.2.2, by rw [List.length_append]; omega, fun _ => by rw [List.length_append]; simp; omega, fun h => by cases h⟩
                        · have hngb : decide (at_ out2 ot < 0) = false := by simp; omega
                          have hin := hM.old_in hE HI.out hcT hmem h1 (by rw [hot]; omega)
                          have HN := Lib.hid (And.intro hM (And.intro hrOa (And.intro hbza (show b2 = false → ∀ c' o : Nat, c' < c + 1 → c' / 3 ∈ W2 → oppI T (c' : Int) = (o : Int) → o / 3 ∈ W2 from fun hb c' o' hc' hm ho' => by
                            by_cases e : c' = c
                            · subst e
                              rw [h1] at ho'
                              have : o = o' := by omega
                              rw [← this]
                              exact hin
                            · exact hcl hb c' o' (by omega) hm ho'))))
                          clear hM hrO hbz hcl hrOa hbza hx hct hcT h1 hmem hba hneg ho hot hin
                          generalize at_ out2 ot = ao at *
                          go_wp2
                          go_roundw
                          case measure => simp [intOf]; omega
                          case rel => exact ⟨b2, c + 1, W2, out2, rfl, by go_num, by omega, HN.out.1, HN.out.2.1, HN.out.2.2.1, hWl, hWt, HN.out.2.2.2⟩
                    · have hnb : (at_ out2 ct == (n : Int)) = false := by simpa using hn
                      have HN := Lib.hid (And.intro hM (And.intro hrOa (And.intro hbza (show b2 = false → ∀ c' o : Nat, c' < c + 1 → c' / 3 ∈ W2 → oppI T (c' : Int) = (o : Int) → o / 3 ∈ W2 from fun hb c' o hc' hm ho => by
                        by_cases e : c' = c
                        · subst e
                          rw [hct] at hm
                          exact absurd (hM.lab ct hm) hn
                        · exact hcl hb c' o (by omega) hm ho))))
                      clear hM hrO hbz hcl hrOa hbza hx hct hcT hba hn
                      generalize at_ out2 ct = ac at *
                      go_wp2
                      go_roundw
                      case measure => simp [intOf]; omega
                      case rel => exact ⟨b2, c + 1, W2, out2, rfl, by go_num, by omega, HN.out.1, HN.out.2.1, HN.out.2.2.1, hWl, hWt, HN.out.2.2.2⟩
                  · obtain rfl : c = 3 * F := by omega
                    have hsm := hM.small
                    rw [HF.out] at hsm
                    have HN := Lib.hid (And.intro hM (And.intro hrO (And.intro hbz hcl)))
                    have hd : decide (((3 * F : Nat) : Int) < 3 * (F : Int)) = false := by simp
                    clear hM hrO hbz hcl
                    push_cast at *
                    go_wp2
                    go_roundg (2 * (F - W2.length) + (if b2 then 1 else 0))
                    case measure => cases b2 <;> simp at hWt ⊢ <;> omega
                    case rel => exact ⟨b2, W2, out2, rfl, Nat.le_refl _, HN.out.1, HN.out.2.1, HN.out.2.2.1, fun hb c' o hc' hm ho => HN.out.2.2.2 hb c' o (by rw [HF.out] at hc'; exact hc') hm ho⟩
        · obtain rfl : F = f := by omega
          rw [← HF.out] at hI
          obtain ⟨s1, s2, s3⟩ := hI.finish
          have HR := Lib.hid (And.intro s1 (And.intro (cnt_fin hI.len s2 s3) (And.intro hrO hbx)))
          clear hI hrO hbx s1 s2 s3
          go_wp2
          refine bodyPost_ret (v := .tuple #[.slice aO F cO, .int .i64 (n : Int)]) (by simp [results, Tryz.results47, go_sem]) rfl ?_
          exact ⟨_, out, n, rfl, own_lower HR.out.2.2.1 hz0, HR.out.1, HR.out.2.1, HB0.out.trans (HR.out.2.2.2.mono hz0)⟩
end Go.Proofs.YtghlnknncahkgaaGreat
namespace Go.Proofs.YtghlnknncahkgaaGreat
open Go.RowKit Go.Maps Go.Sort

theorem own_capP {w : World} {base n s g cap m : Nat} {e : TypeId} {xs : List Value} (h : w.ownsRow base e s (.slice (some ⟨g, 0, none⟩) m cap) n xs) : n ≤ cap := by
  rcases h.2 with ⟨e, _⟩ | ⟨g, cap, cur, e, _, _, k1, _⟩
  · cases e
  · cases e
    exact k1
theorem own_alloc9 {W : World} {base n s : Nat} {v : Value} {e : TypeId} {xs : List Value} (h : W.ownsRow base e s v n xs) (o : Obj) : (W.alloc o).ownsRow base e s v n xs := own_below h ((Below.refl _ _).alloc (Nat.le_refl _) _)
section
variable {w W W' w4 : World} {b : Nat} {N N' : Int} {T : List Tr} {vT vO : Value} {O : List Int}
end
theorem infoInt9 : (Tryz.prog.info? 3).map (fun i => (i.zero, i.size, i.bytes)) = some (some (.int .i64 0), 1, 8) := by kernel_rfl
theorem soupsM_get {l : List RecM} {j : Nat} {x : RecM} (h : l[j]? = some x) : (soupsM l)[j]? = some (x.N, x.T) := by simp [soupsM, h]
end Go.Proofs.YtghlnknncahkgaaGreat
namespace Go.Proofs.YtghlnknncahkgaaGreat
open Go.RowKit Go.Maps Go.Sort

/-- The best so far, in block b. -/
def BeB (w W : World) (b : Nat) (T P : List Tr) (K : List Int) (o : Option Nat) : Prop := match o with
  | none => Blk W b 65 #[.int .i64 0, .slice none 0 0, .slice none 0 0, .slice none 0 0]
  | some d => ∃ vT vP vK, Blk W b 65 #[.int .i64 (fromM T P K d).N, vT, vP, vK] ∧ W.ownsRow w.heap.size 72 3 vT (fromM T P K d).T.length (ws3 (fromM T P K d).T) ∧
      W.ownsRow w.heap.size 111 3 vP (fromM T P K d).P.length (ws3 (fromM T P K d).P) ∧ W.ownsRow w.heap.size 3 1 vK (fromM T P K d).K.length (intsV (fromM T P K d).K)
theorem BeB.below {w W W' : World} {b : Nat} {T P : List Tr} {K : List Int} {o : Option Nat} (h : BeB w W b T P K o) (hb : Below W.heap.size W W') : BeB w W' b T P K o := by
  cases o with
  | none =>
    have h' : Blk W b 65 _ := h
    exact (h'.below hb h'.lt : Blk W' b _ _)
  | some d =>
    obtain ⟨vT, vP, vK, h1, h2, h3, h4⟩ := h
    exact ⟨vT, vP, vK, h1.below hb h1.lt, own_below h2 hb, own_below h3 hb, own_below h4 hb⟩
theorem BeB.blk {w W : World} {b : Nat} {T P : List Tr} {K : List Int} {o : Option Nat} (h : BeB w W b T P K o) : ∃ c0 c1 c2 c3, Blk W b 65 #[c0, c1, c2, c3] := by
  cases o with
  | none => exact ⟨_, _, _, _, h⟩
  | some d =>
    obtain ⟨vT, vP, vK, h1, -⟩ := h
    exact ⟨_, _, _, _, h1⟩
theorem BeB.put {w0 w W : World} {B b : Nat} {T P : List Tr} {K : List Int} {o : Option Nat} {d : Nat} {vT vP vK : Value} (h : BeB w W b T P K o) (hT : W.ownsRow w.heap.size 72 3 vT (fromM T P K d).T.length (ws3 (fromM T P K d).T))
    (hP : W.ownsRow w.heap.size 111 3 vP (fromM T P K d).P.length (ws3 (fromM T P K d).P)) (hK : W.ownsRow w.heap.size 3 1 vK (fromM T P K d).K.length (intsV (fromM T P K d).K)) (hb : Below B w0 W) (hB : B ≤ b) :
    BeB w ((((W.setCell ⟨b, 0, none⟩ (.int .i64 (fromM T P K d).N)).setCell ⟨b, 1, none⟩ vT).setCell ⟨b, 2, none⟩ vP).setCell ⟨b, 3, none⟩ vK) b T P K (some d) ∧
    Below B w0 ((((W.setCell ⟨b, 0, none⟩ (.int .i64 (fromM T P K d).N)).setCell ⟨b, 1, none⟩ vT).setCell ⟨b, 2, none⟩ vP).setCell ⟨b, 3, none⟩ vK) := by
  obtain ⟨c0, c1, c2, c3, hk⟩ := h.blk
  obtain ⟨h1, h2, h3, h4, h5⟩ := fin_body hk hT hP hK hb hB (.int .i64 (fromM T P K d).N) vT vP vK
  exact ⟨⟨vT, vP, vK, h1, h2, h3, h4⟩, h5⟩
theorem from_eqlen (T P : List Tr) (K : List Int) {c d : Nat} (h : ordM (fromM T P K c).N (fromM T P K c).T (fromM T P K d).N (fromM T P K d).T = 0) : (fromM T P K c).P.length = (fromM T P K d).P.length ∧ (fromM T P K c).K.length = (fromM T P K d).K.length := by
  have h1 := cmpL_zero h
  have h2 : (fromM T P K c).N = (fromM T P K d).N := by simp only [rowM, List.cons.injEq] at h1; exact h1.1
  have h3 : ((fromM T P K c).T.length : Int) = ((fromM T P K d).T.length : Int) := by simp only [rowM, List.cons.injEq] at h1; exact h1.2.1
  have e1 : ((rtN T c).1.length : Int) = ((rtN T d).1.length : Int) := h2
  have e2 : ((rtN T c).2.length : Int) = ((rtN T d).2.length : Int) := h3
  have f1 := numL_len T (rtL T c) ([], [])
  have f2 := numL_len T (rtL T d) ([], [])
  have g1 : numL T (rtL T c) ([], []) = rtN T c := rfl
  have g2 : numL T (rtL T d) ([], []) = rtN T d := rfl
  rw [g1] at f1
  rw [g2] at f2
  simp only [List.length_nil] at f1 f2
  refine ⟨?_, ?_⟩
  · show (paintL P (rtN T c).1).length = (paintL P (rtN T d).1).length
    unfold paintL
    split
    · rfl
    · rw [paintF_len, paintF_len]
      omega
  · show (sideL K (rtL T c)).length = (sideL K (rtL T d)).length
    unfold sideL
    split
    · rfl
    · rw [sideF_len, sideF_len]
      omega
theorem TrisRd.of_pts {w : World} {base : Nat} {v : Value} {T : List Tr} (h : w.ownsRow base 111 3 v T.length (ws3 T)) : TrisRd w v T := by
  rcases h.2 with ⟨rfl, h0⟩ | ⟨g, cap, cur, rfl, hb, hg, h1, h2, _⟩
  · rw [List.eq_nil_of_length_eq_zero h0]
    exact ⟨none, 0, rfl, by simp, by simp, fun k x y z hk => by simp at hk⟩
  · unfold maxLen at h2
    refine ⟨some ⟨g, 0, none⟩, cap, rfl, h1, by omega, fun k x y z hk => ?_⟩
    obtain ⟨d0, d1, d2⟩ := ws3_at hk
    have hk' := (List.getElem?_eq_some_iff.1 hk).1
    have hl := h.1
    refine ⟨g, 0, rfl, (Array.getElem?_eq_some_iff.1 hg).1, ?_, ?_, ?_⟩
    · rw [Nat.zero_add, h.cellAt _ (by omega)]; exact d0
    · rw [Nat.zero_add, h.cellAt _ (by omega)]; exact d1
    · rw [Nat.zero_add, h.cellAt _ (by omega)]; exact d2
/-- The body as it is joined, in block b. -/
structure FbSt (w W : World) (b : Nat) (N : Int) (T P : List Tr) (K : List Int) (vT vP vK : Value) : Prop where
  k4 : Blk W b 65 #[.int .i64 N, vT, vP, vK]
  rT : W.ownsRow w.heap.size 72 3 vT T.length (ws3 T)
  rP : W.ownsRow w.heap.size 111 3 vP P.length (ws3 P)
  rK : W.ownsRow w.heap.size 3 1 vK K.length (intsV K)
  bel : Below w.heap.size w W
  l4 : w.heap.size ≤ b
section
variable {w W W' w4 : World} {b : Nat} {N N' : Int} {T P : List Tr} {K : List Int} {vT vP vK : Value}
theorem FbSt.below (h : FbSt w W b N T P K vT vP vK) (hb : Below W.heap.size W W') : FbSt w W' b N T P K vT vP vK :=
  ⟨h.k4.below hb h.k4.lt, own_below h.rT hb, own_below h.rP hb, own_below h.rK hb, h.bel.trans (hb.mono h.bel.size), h.l4⟩
theorem FbSt.alloc (h : FbSt w W b N T P K vT vP vK) (o : Obj) : FbSt w (W.alloc o) b N T P K vT vP vK := h.below ((Below.refl _ _).alloc (Nat.le_refl _) _)
theorem FbSt.drew (h : FbSt w W b N T P K vT vP vK) : FbSt w W.drew b N T P K vT vP vK := h.below (Below.refl _ _).drew
theorem FbSt.appT (h : FbSt w W b N T P K vT vP vK) (hg : W.grownBy w4 vT.ownBlock) {v4 : Value} {T4 : List Tr} (hr : w4.ownsRow w.heap.size 72 3 v4 T4.length (ws3 T4)) :
    Blk w4 b 65 #[.int .i64 N, vT, vP, vK] ∧ Below w.heap.size w w4 ∧ FbSt w (w4.setCell ⟨b, 1, none⟩ v4) b N T4 P K v4 vP vK := by
  have c4 := h.k4.grown hg (fun e => own_blk_ne h.rT h.k4 (by decide) e.symm)
  have p4 := h.rP.kept hg (own_own_ne h.rP h.rT (by decide))
  have o4 := h.rK.kept hg (own_own_ne h.rK h.rT (by decide))
  have hS : w4.grownBy (w4.setCell ⟨b, 1, none⟩ v4) (some b) := gStR (World.grownBy.refl _ _)
  have bel4 := h.bel.grown hg h.bel.size (fun j e => (h.rT.lt j e).1)
  exact ⟨c4, bel4, ⟨by simpa using c4.set_ 1 v4, hr.kept hS (.inr (own_blk_ne hr c4 (by decide))), p4.kept hS (.inr (own_blk_ne p4 c4 (by decide))), o4.kept hS (.inr (own_blk_ne o4 c4 (by decide))), bel4.setCell h.l4 _, h.l4⟩⟩
theorem FbSt.appP (h : FbSt w W b N T P K vT vP vK) (hg : W.grownBy w4 vP.ownBlock) {v4 : Value} {P4 : List Tr} (hr : w4.ownsRow w.heap.size 111 3 v4 P4.length (ws3 P4)) :
    Blk w4 b 65 #[.int .i64 N, vT, vP, vK] ∧ Below w.heap.size w w4 ∧ FbSt w (w4.setCell ⟨b, 2, none⟩ v4) b N T P4 K vT v4 vK := by
  have c4 := h.k4.grown hg (fun e => own_blk_ne h.rP h.k4 (by decide) e.symm)
  have t4 := h.rT.kept hg (own_own_ne h.rT h.rP (by decide))
  have o4 := h.rK.kept hg (own_own_ne h.rK h.rP (by decide))
  have hS : w4.grownBy (w4.setCell ⟨b, 2, none⟩ v4) (some b) := gStR (World.grownBy.refl _ _)
  have bel4 := h.bel.grown hg h.bel.size (fun j e => (h.rP.lt j e).1)
  exact ⟨c4, bel4, ⟨by simpa using c4.set_ 2 v4, t4.kept hS (.inr (own_blk_ne t4 c4 (by decide))), hr.kept hS (.inr (own_blk_ne hr c4 (by decide))), o4.kept hS (.inr (own_blk_ne o4 c4 (by decide))), bel4.setCell h.l4 _, h.l4⟩⟩
theorem FbSt.appK (h : FbSt w W b N T P K vT vP vK) (hg : W.grownBy w4 vK.ownBlock) {v4 : Value} {K4 : List Int} (hr : w4.ownsRow w.heap.size 3 1 v4 K4.length (intsV K4)) :
    Blk w4 b 65 #[.int .i64 N, vT, vP, vK] ∧ Below w.heap.size w w4 ∧ FbSt w (w4.setCell ⟨b, 3, none⟩ v4) b N T P K4 vT vP v4 := by
  have c4 := h.k4.grown hg (fun e => own_blk_ne h.rK h.k4 (by decide) e.symm)
  have t4 := h.rT.kept hg (own_own_ne h.rT h.rK (by decide))
  have p4 := h.rP.kept hg (own_own_ne h.rP h.rK (by decide))
  have hS : w4.grownBy (w4.setCell ⟨b, 3, none⟩ v4) (some b) := gStR (World.grownBy.refl _ _)
  have bel4 := h.bel.grown hg h.bel.size (fun j e => (h.rK.lt j e).1)
  exact ⟨c4, bel4, ⟨by simpa using c4.set_ 3 v4, t4.kept hS (.inr (own_blk_ne t4 c4 (by decide))), p4.kept hS (.inr (own_blk_ne p4 c4 (by decide))), hr.kept hS (.inr (own_blk_ne hr c4 (by decide))), bel4.setCell h.l4 _, h.l4⟩⟩
theorem FbSt.setN (h : FbSt w W b N T P K vT vP vK) : FbSt w (W.setCell ⟨b, 0, none⟩ (.int .i64 N')) b N' T P K vT vP vK :=
  ⟨by simpa using h.k4.set_ 0 (.int .i64 N'), own_alloc_st h.rT h.k4 (by decide), own_alloc_st h.rP h.k4 (by decide), own_alloc_st h.rK h.k4 (by decide), h.bel.setCell h.l4 _, h.l4⟩
end
theorem flat_step {α : Type} {l : List RecM} {j : Nat} {x : RecM} (f : RecM → List α) (h : l[j]? = some x) : (l.take (j + 1)).flatMap f = (l.take j).flatMap f ++ f x := by
  obtain ⟨hk, he⟩ := List.getElem?_eq_some_iff.1 h
  rw [List.take_succ_eq_append_getElem hk, he]
  simp
theorem flat_bd {α : Type} (f : RecM → List α) : ∀ (l : List RecM) (n : Nat), (∀ r ∈ l, (f r).length ≤ n) → ∀ j, ((l.take j).flatMap f).length ≤ l.length * n
  | [], n, _, j => by simp
  | x :: l, n, h, 0 => by simp
  | x :: l, n, h, j + 1 => by
    rw [List.take_succ_cons, List.flatMap_cons, List.length_append, List.length_cons, Nat.succ_mul]
    have h1 := h x (List.mem_cons_self ..)
    have h2 := flat_bd f l n (fun r hr => h r (List.mem_cons_of_mem _ hr)) j
    omega
/-- What gypsumref46.Body answers. -/
def RbPost (T P : List Tr) (K : List Int) (w : World) (e : Ending) (w' : World) : Prop := ∃ (out : List Int) (m : Nat) (vT' vP' vK' : Value), Shl T out ∧ (m : Int) = cntL out ∧ e = .returned (.agg #[.int .i64 (joinM (soupsM (sortM T P K out m))).1, vT', vP', vK']) ∧
      w'.ownsRow w.heap.size 72 3 vT' (joinM (soupsM (sortM T P K out m))).2.length (ws3 (joinM (soupsM (sortM T P K out m))).2) ∧
      w'.ownsRow w.heap.size 111 3 vP' ((sortM T P K out m).flatMap (·.P)).length (ws3 ((sortM T P K out m).flatMap (·.P))) ∧
      w'.ownsRow w.heap.size 3 1 vK' ((sortM T P K out m).flatMap (·.K)).length (intsV ((sortM T P K out m).flatMap (·.K))) ∧ Below w.heap.size w w'
set_option maxRecDepth 100000 in
set_option maxHeartbeats 8000000 in
theorem body46_any (N : Int) (v vP vK : Value) (T P : List Tr) (K : List Int) (w : World) (h : TrisRd w v T) (hP : TrisRd w vP P) (hK : IntsRd w vK K) (hS : Surf N T) (hl : T.length ≤ 24) (hN : N ≤ 60) (hPl : (P.length : Int) = N) (hKl : K ≠ [] → K.length = 3 * T.length) :
    Calls Tryz.prog 32 #[.agg #[.int .i64 N, v, vP, vK]] w fun e w' => RbPost T P K w e w' := by
  obtain ⟨iP, hjP, bP0, bP1, bP2⟩ := info_parts infoBody
  have hb1 := (Blk.new w 65 #[.int .i64 N, v, vP, vK]).alloc (.cells #[.int .i64 0, .slice none 0 0, .slice none 0 0, .slice none 0 0] 65)
  have hb2 : Blk ((w.alloc (.cells #[.int .i64 N, v, vP, vK] 65)).alloc (.cells #[.int .i64 0, .slice none 0 0, .slice none 0 0, .slice none 0 0] 65)) (w.heap.size + 1) 65 #[.int .i64 0, .slice none 0 0, .slice none 0 0, .slice none 0 0] := blk_new_at (by simp)
  have hB0 : Below w.heap.size w ((w.alloc (.cells #[.int .i64 N, v, vP, vK] 65)).alloc (.cells #[.int .i64 0, .slice none 0 0, .slice none 0 0, .slice none 0 0] 65)) := ((Below.refl _ _).alloc (Nat.le_refl _) _).alloc (by simp) _
  have HSh := Lib.hid (shells10_any N v T _ (h.below hB0) hS.twice (by omega))
  have HBd := Lib.hid (fun (c : Nat) (W : World) (hc : c < 3 * T.length) (hW : Below w.heap.size w W) => bodied_any N v vP vK T P K c W (h.below hW) (hP.below hW) (hK.below hW) hc (by omega) hPl hKl (fun d hd => vert_inr hS hd))
  obtain ⟨aT, cT, rfl, -⟩ := h
  obtain ⟨aP, cP, rfl, -⟩ := hP
  obtain ⟨aK, cK, rfl, -⟩ := hK
  obtain ⟨F, hF⟩ : ∃ F, T.length = F := ⟨_, rfl⟩
  obtain ⟨nP, hnP⟩ : ∃ n, P.length = n := ⟨_, rfl⟩
  obtain ⟨nK, hnK⟩ : ∃ n, K.length = n := ⟨_, rfl⟩
  have HF := Lib.hid hF
  have HS := Lib.hid hS
  rw [hF, hnP, hnK] at hb1 hb2 hB0 HBd
  rw [hF] at hl
  rw [hF, hnP, hnK] at HSh
  rw [hF, hnP, hnK]
  clear hnP hnK hPl hKl
  have HB0 := Lib.hid hB0
  have HK := Lib.hid hb1
  have HKr := Lib.hid hb2
  obtain ⟨l0, x0, x1, x2, x3⟩ := fourF hb1
  clear hb1 hb2 hB0 hF hS
  go_enter Tryz.func32, Tryz.ntmps32
  go_upto_region 2 with (go_at_call 47; go_loud (with_reducible refine HSh.out.mono ?_; rintro e w1 ⟨vS, out, m, rfl, hrS, hsh, hm, hb⟩; have Hm := Lib.hid hm; clear hm))
  obtain ⟨aS, cS, rfl⟩ := ownsRow_slice hrS
  have hBw := HB0.out.trans (hb.mono HB0.out.size)
  have hk := HK.out.below hb l0
  have hkr := HKr.out.below hb HKr.out.lt
  have HB1 := Lib.hid hBw
  have HK1 := Lib.hid hk
  have HKr1 := Lib.hid hkr
  have hz1 := hBw.size
  have Hsh := Lib.hid hsh
  have HmP := Lib.hid (hsh.hasP Hm.out)
  have hol : out.length = F := by rw [hsh.len, HF.out]
  have HvS := Lib.hid (show IntsRd w1 (.slice aS F cS) out from IntsRd.of_row hrS hol)
  have hm20 : m ≤ 20 := by have := (hsh.hasP Hm.out).le HS.out hsh; have := HS.out.n0; omega
  have Hol := Lib.hid hol
  clear hb hBw hk hkr x0 x1 x2 x3 hrS hsh hol
  have HP0 := Lib.hid (show PtSt w1 (w1.alloc (.cells #[] 65)) (.slice (some ⟨w1.heap.size, 0, none⟩) 0 0) [] (sortM T P K out 0) from
    ⟨rfl, (fun x hx => by cases hx), own_nil_body (Blk.new w1 _ _) (Nat.le_refl _), (Below.refl _ _).alloc (Nat.le_refl _) _⟩)
  go_wp2
  go_loopw [5, 6] (fun vL i wr => ∃ k : Nat, k ≤ m ∧ i = .int .i64 (k : Int) ∧ ∃ gL cL xs, vL = .slice (some ⟨gL, 0, none⟩) k cL ∧ PtSt w1 wr vL xs (sortM T P K out k)) (fun _ i _ => m - (intOf i).toNat)
  case atStart => exact ⟨0, Nat.zero_le _, rfl, _, _, [], rfl, HP0.out⟩
  case round =>
    clear HP0
    rename World => wr
    obtain ⟨k, hk, rfl, gL, cL, xs, rfl, hP⟩ := hrel
    have hzr := hP.bel.size
    by_cases hkm : k < m
    · have hki : (k : Int) < (m : Int) := by omega
      obtain ⟨hbn, hbl, hba⟩ := bestC_ok (P := P) (K := K) HmP.out hkm
      have HBn := Lib.hid hbn
      have HP := Lib.hid hP
      have HDl := Lib.hid hbl
      have HBe0 := Lib.hid (show BeB w1 (wr.alloc (.cells #[.int .i64 0, .slice none 0 0, .slice none 0 0, .slice none 0 0] 65)) wr.heap.size T P K (bestN (rowC T P K) out k 0) from Blk.new wr _ _)
      clear hP hbn hbl hba
      go_upto_region 7 with fail
      go_wp2
      go_loopw [8, 9] (fun f i wx => ∃ c : Nat, c ≤ 3 * F ∧ i = .int .i64 (c : Int) ∧ f = .bool (bestN (rowC T P K) out k c).isNone ∧ BeB w1 wx wr.heap.size T P K (bestN (rowC T P K) out k c) ∧ Below wr.heap.size wr wx) (fun _ i _ => 3 * F - (intOf i).toNat)
      case atStart => exact ⟨0, Nat.zero_le _, rfl, rfl, HBe0.out, (Below.refl _ _).alloc (Nat.le_refl _) _⟩
      case round =>
        clear HBe0
        rename World => wx
        obtain ⟨c, hc, rfl, rfl, hLb, hbx⟩ := hrel
        have hbw := HB1.out.trans ((HP.out.bel.trans (hbx.mono hzr)).mono hz1)
        have hK1 := HK1.out.below (HP.out.bel.trans (hbx.mono hzr)) HK1.out.lt
        obtain ⟨l1, b0, b1, b2, b3⟩ := fourF hK1
        have HBw := Lib.hid hbw
        have HBx := Lib.hid hbx
        have HLb := Lib.hid hLb
        by_cases hlt : c < 3 * F
        · obtain ⟨kt, hkt⟩ : ∃ kt, c / 3 = kt := ⟨_, rfl⟩
          have hktF : kt < F := by omega
          have e3 : (c : Int) / 3 = (kt : Int) := by omega
          have hc0 : (0 : Int) ≤ (c : Int) := by omega
          have hc1 : (c : Int) ≤ 100000 := by omega
          have hci : (c : Int) < 3 * (F : Int) := by omega
          have hkti : (kt : Int) < (F : Int) := by omega
          have hcT : c < 3 * T.length := by rw [HF.out]; exact hlt
          have hat9 : out[kt]? = some (at_ out kt) := by
            have hh : kt < out.length := by rw [Hol.out]; exact hktF
            simp [at_, List.getD, List.getElem?_eq_getElem hh]
          have hvS := HvS.out.below (HP.out.bel.trans (hbx.mono hzr))
          obtain ⟨a', c', e', -, hrS⟩ := hvS
          rw [Hol.out] at e'
          cases e'
          obtain ⟨bS, oS, rfl, hbS, sS⟩ := hrS kt _ hat9
          have hsuc := bestN_succ (rowC T P K) out k c
          rw [hkt] at hsuc
          by_cases hn : at_ out kt = (k : Int)
          · rw [hn] at sS
            rw [if_pos hn] at hsuc
            have HSu0 := Lib.hid hsuc
            have hB9 := HBd.out c wx hlt hbw
            have hlens := from_len T P K hcT
            have hlr := (rtN_lens hcT).2.1
            obtain ⟨R, hR⟩ : ∃ R, fromM T P K c = R := ⟨_, rfl⟩
            rw [hR] at hB9 hlens
            obtain ⟨nX, hnX⟩ : ∃ n, R.T.length = n := ⟨_, rfl⟩
            obtain ⟨nY, hnY⟩ : ∃ n, R.P.length = n := ⟨_, rfl⟩
            obtain ⟨nZ, hnZ⟩ : ∃ n, R.K.length = n := ⟨_, rfl⟩
            have hnX9 : nX ≤ 1000 ∧ nY ≤ 1000 ∧ nZ ≤ 1000 := by have := HF.out; omega
            obtain ⟨hnX1, hnY1, hnZ1⟩ := hnX9
            rw [hnX, hnY, hnZ] at hB9
            have HB9 := Lib.hid hB9
            have HR := Lib.hid hR
            have Hlen := Lib.hid (And.intro hnX (And.intro hnY hnZ))
            clear hsuc hat9 hn hrS hLb hbw hbx hK1 hkt hB9 hlens hlr hR hnX hnY hnZ
            go_upto_region 13 with (go_at_call 63; go_loud (with_reducible refine HB9.out.mono ?_; rintro e w2 ⟨vX, vY, vZ, rfl, hX, hY, hZ, hb2⟩; obtain ⟨aX, cX, rfl⟩ := ownsRow_slice hX; obtain ⟨aY, cY, rfl⟩ := ownsRow_slice hY; obtain ⟨aZ, cZ, rfl⟩ := ownsRow_slice hZ))
            have hzx : w1.heap.size ≤ wx.heap.size := Nat.le_trans hzr HBx.out.size
            have hA := (Below.refl w2.heap.size w2).alloc (Nat.le_refl _) (.cells #[.int .i64 R.N, .slice aX nX cX, .slice aY nY cY, .slice aZ nZ cZ] 65)
            have hBB := hb2.trans (hA.mono hb2.size)
            have hb3 := HBx.out.trans (hBB.mono HBx.out.size)
            have hL3 := HLb.out.below hBB
            have hX3 := own_lower (own_below hX hA) hzx
            have hY3 := own_lower (own_below hY hA) hzx
            have hZ3 := own_lower (own_below hZ hA) hzx
            have hQ := Blk.new w2 65 #[.int .i64 R.N, .slice aX nX cX, .slice aY nY cY, .slice aZ nZ cZ]
            generalize w2.alloc (.cells #[.int .i64 R.N, .slice aX nX cX, .slice aY nY cY, .slice aZ nZ cZ] 65) = W3 at *
            generalize w2.heap.size = qq at *
            have HQ3 := Lib.hid hQ
            obtain ⟨lq, q0, q1, q2, q3⟩ := fourF hQ
            obtain ⟨cA, cB, cC, cD, hB7⟩ := hL3.blk
            obtain ⟨lb7, p0, f0, p1, f1, p2, f2, p3, f3⟩ := fourH hB7
            have hPut := (BeB.put (d := c) (vT := .slice aX nX cX) (vP := .slice aY nY cY) (vK := .slice aZ nZ cZ) hL3 (by rw [HR.out, Hlen.out.1]; exact hX3) (by rw [HR.out, Hlen.out.2.1]; exact hY3) (by rw [HR.out, Hlen.out.2.2]; exact hZ3) hb3 (Nat.le_refl _))
            rw [show (fromM T P K c).N = R.N from by rw [HR.out]] at hPut
            have HPut := Lib.hid hPut
            clear hPut
            have H3 := Lib.hid (And.intro hb3 (And.intro hL3 (And.intro hX3 (And.intro hY3 hZ3))))
            clear hA hBB hX hY hZ hb2 hQ b0 b1 b2 b3 l1
            cases hbo : bestN (rowC T P K) out k c with
            | none =>
              have HSu := Lib.hid (show bestN (rowC T P K) out k (c + 1) = some c from by rw [HSu0.out, hbo]; rfl)
              clear hbo hb3 hL3 hX3 hY3 hZ3 hB7
              simp only [Option.isNone_none]
              go_wp2
              go_roundw
              case measure => simp [intOf]; omega
              case rel => exact ⟨c + 1, by omega, by go_num, by rw [HSu.out]; rfl, by rw [HSu.out]; exact HPut.out.1, HPut.out.2⟩
            | some d' =>
              have hd3 := bestN_lt hbo
              have hsu := HSu0.out
              rw [hbo] at hsu hL3
              clear HPut p0 f0 p1 f1 p2 f2 p3 f3 hB7 lb7
              obtain ⟨vT', vP', vK', hB', hT', hP', hK'⟩ := id hL3
              obtain ⟨aT', cT', rfl⟩ := ownsRow_slice hT'
              obtain ⟨aP', cP', rfl⟩ := ownsRow_slice hP'
              obtain ⟨aK', cK', rfl⟩ := ownsRow_slice hK'
              have hlens' := from_len T P K (c := d') (by rw [HF.out]; omega)
              have hlr' := (rtN_lens (T := T) (c := d') (by rw [HF.out]; omega)).2.1
              have heq := from_eqlen T P K (c := c) (d := d')
              have hpk : pickC (rowC T P K) (some d') c = if cmpL (fromM T P K c).row (fromM T P K d').row < 0 then some c else some d' := rfl
              rw [hpk] at hsu
              rw [HR.out] at heq hsu
              obtain ⟨R', hR'⟩ : ∃ R', fromM T P K d' = R' := ⟨_, rfl⟩
              rw [hR'] at hB' hT' hP' hK' hlens' heq hsu
              obtain ⟨nX', hnX'⟩ : ∃ n, R'.T.length = n := ⟨_, rfl⟩
              obtain ⟨nY', hnY'⟩ : ∃ n, R'.P.length = n := ⟨_, rfl⟩
              obtain ⟨nZ', hnZ'⟩ : ∃ n, R'.K.length = n := ⟨_, rfl⟩
              have hnX9 : nX' ≤ 1000 ∧ nY' ≤ 1000 ∧ nZ' ≤ 1000 := by have := HF.out; omega
              obtain ⟨hnX2, hnY2, hnZ2⟩ := hnX9
              have hOr := bodies_any R.N R'.N (.slice aX nX cX) (.slice aT' nX' cT') (.slice aY nY cY) (.slice aP' nY' cP') (.slice aZ nZ cZ) (.slice aK' nZ' cK') R.T R'.T R.P R'.P R.K R'.K W3
                (by rw [← Hlen.out.1]; exact TrisRd.of_row (by rw [Hlen.out.1]; exact hX3)) (by rw [← hnX']; exact TrisRd.of_row hT') (by rw [← Hlen.out.2.1]; exact TrisRd.of_pts (by rw [Hlen.out.2.1]; exact hY3)) (by rw [← hnY']; exact TrisRd.of_pts hP') (IntsRd.of_row hZ3 Hlen.out.2.2) (by rw [← hnZ']; exact IntsRd.of_row hK' rfl)
                (by rw [Hlen.out.1]; omega) (by omega) (by rw [Hlen.out.2.1]; omega) (by rw [Hlen.out.2.2]; omega) heq
              rw [hnX', hnY', hnZ'] at hB'
              obtain ⟨cm, hcm⟩ : ∃ cm, cmpL R.row R'.row = cm := ⟨_, rfl⟩
              have hcm2 : cmpL (bodM R.N R.T R.P R.K) (bodM R'.N R'.T R'.P R'.K) = cm := hcm
              rw [hcm2] at hOr
              rw [hcm] at hsu
              have HOr := Lib.hid hOr
              obtain ⟨lb7, p0, f0, p1, f1, p2, f2, p3, f3⟩ := fourH hB'
              have HLb3 := Lib.hid hL3
              simp only [Option.isNone_some]
              clear hOr hcm hcm2 hpk heq hlens' hlr' hnX' hnY' hnZ' hR' hbo hL3 hB' hT' hP' hK' hX3 hY3 hZ3 hb3
              by_cases hlt2 : cm < 0
              · have hdc : decide (cm < 0) = true := by simpa using hlt2
                have HSu := Lib.hid (show bestN (rowC T P K) out k (c + 1) = some c from by rw [hsu, if_pos hlt2])
                clear hsu hlt2
                go_upto_if 54 with (go_at_call 64; go_loud (with_reducible refine HOr.out.mono ?_); rintro e w4 ⟨rfl, hb4⟩)
                have hL4 := HLb3.out.below hb4
                obtain ⟨cA', cB', cC', cD', hB8⟩ := hL4.blk
                obtain ⟨lb8, r0, g0, r1, g1, r2, g2, r3, g3⟩ := fourH hB8
                obtain ⟨lq4, u0, u1, u2, u3⟩ := fourF (HQ3.out.below hb4 lq)
                have hPut := (BeB.put (d := c) (vT := .slice aX nX cX) (vP := .slice aY nY cY) (vK := .slice aZ nZ cZ) hL4 (by rw [HR.out, Hlen.out.1]; exact own_below H3.out.2.2.1 hb4) (by rw [HR.out, Hlen.out.2.1]; exact own_below H3.out.2.2.2.1 hb4) (by rw [HR.out, Hlen.out.2.2]; exact own_below H3.out.2.2.2.2 hb4) (H3.out.1.trans (hb4.mono H3.out.1.size)) (Nat.le_refl _))
                rw [show (fromM T P K c).N = R.N from by rw [HR.out]] at hPut
                have HPut := Lib.hid hPut
                clear hPut hL4 hB8 hb4 p0 f0 p1 f1 p2 f2 p3 f3 q0 q1 q2 q3
                go_wp2
                go_roundw
                case measure => simp [intOf]; omega
                case rel => exact ⟨c + 1, by omega, by go_num, by rw [HSu.out]; rfl, by rw [HSu.out]; exact HPut.out.1, HPut.out.2⟩
              · have hdc : decide (cm < 0) = false := by simpa using hlt2
                have HSu := Lib.hid (show bestN (rowC T P K) out k (c + 1) = some d' from by rw [hsu, if_neg hlt2])
                clear hsu hlt2
                go_upto_if 54 with (go_at_call 64; go_loud (with_reducible refine HOr.out.mono ?_); rintro e w4 ⟨rfl, hb4⟩)
                have HK9 := Lib.hid (And.intro (HLb3.out.below hb4) (H3.out.1.trans (hb4.mono H3.out.1.size)))
                clear hb4 p0 f0 p1 f1 p2 f2 p3 f3 q0 q1 q2 q3
                go_wp2
                go_roundw
                case measure => simp [intOf]; omega
                case rel => exact ⟨c + 1, by omega, by go_num, by rw [HSu.out]; rfl, by rw [HSu.out]; exact HK9.out.1, HK9.out.2⟩
          · rw [if_neg hn] at hsuc
            have hnb : (at_ out kt == (k : Int)) = false := by simpa using hn
            have HN := Lib.hid (show (bestN (rowC T P K) out k (c + 1)).isNone = (bestN (rowC T P K) out k c).isNone ∧ BeB w1 wx wr.heap.size T P K (bestN (rowC T P K) out k (c + 1)) from by rw [hsuc]; exact ⟨rfl, HLb.out⟩)
            clear hsuc hat9 hn hrS hLb hbw hbx hK1 hkt
            generalize at_ out kt = ak at *
            generalize (bestN (rowC T P K) out k c).isNone = bn at *
            go_wp2
            go_roundw
            case measure => simp [intOf]; omega
            case rel => exact ⟨c + 1, by omega, by go_num, by rw [HN.out.1], HN.out.2, HBx.out⟩
        · obtain rfl : c = 3 * F := by omega
          have hbn := HBn.out
          rw [HF.out] at hbn
          rw [hbn] at hLb
          obtain ⟨d, hd⟩ : ∃ d, bestC T P K out k = d := ⟨_, rfl⟩
          have hsu := sortM_succ T P K out k
          have HDl2 := HDl.out
          rw [hd] at hLb hsu HDl2
          obtain ⟨vX, vY, vZ, hB7, hX, hY, hZ⟩ := hLb
          have hlens := from_len T P K HDl2
          have hlr := (rtN_lens HDl2).2.1
          obtain ⟨rp, hrp⟩ : ∃ rp, fromM T P K d = rp := ⟨_, rfl⟩
          rw [hrp] at hB7 hX hY hZ hlens
          obtain ⟨aX, cX, rfl⟩ := ownsRow_slice hX
          obtain ⟨aY, cY, rfl⟩ := ownsRow_slice hY
          obtain ⟨aZ, cZ, rfl⟩ := ownsRow_slice hZ
          obtain ⟨nX, hnX⟩ : ∃ n, rp.T.length = n := ⟨_, rfl⟩
          obtain ⟨nY, hnY⟩ : ∃ n, rp.P.length = n := ⟨_, rfl⟩
          obtain ⟨nZ, hnZ⟩ : ∃ n, rp.K.length = n := ⟨_, rfl⟩
          rw [hnX, hnY, hnZ] at hB7
          have hX' : wx.ownsRow w1.heap.size 72 3 (.slice aX nX cX) rp.T.length (ws3 rp.T) := by rw [← hnX]; exact hX
          have hY' : wx.ownsRow w1.heap.size 111 3 (.slice aY nY cY) rp.P.length (ws3 rp.P) := by rw [← hnY]; exact hY
          have hZ' : wx.ownsRow w1.heap.size 3 1 (.slice aZ nZ cZ) rp.K.length (intsV rp.K) := by rw [← hnZ]; exact hZ
          have hnX9 : nX ≤ 1000 ∧ nY ≤ 1000 ∧ nZ ≤ 1000 := by have := HF.out; omega
          obtain ⟨hnX1, hnY1, hnZ1⟩ := hnX9
          have Hlen := Lib.hid (And.intro hnX (And.intro hnY hnZ))
          have Hrp := Lib.hid hrp
          have Hsu := Lib.hid hsu
          have H2 := Lib.hid (And.intro (HP.out.below hbx) (And.intro hB7 (And.intro hX' (And.intro hY' hZ'))))
          have hd9 : decide (((3 * F : Nat) : Int) < 3 * (F : Int)) = false := by simp
          have hzx9 : w1.heap.size ≤ wx.heap.size := Nat.le_trans hzr hbx.size
          clear hbn hd hsu hB7 hX hY hZ hX' hY' hZ' hlens hlr hrp hnX hnY hnZ HLb HBx HBw hbx hbw hK1 HBn
          push_cast at *
          go_upto_region 16 with fail
          clear b0 b1 b2 b3 l1 hd9
          generalize wr.heap.size = q8 at *
          go_wp2
          obtain ⟨l, hsl⟩ : ∃ l, sortM T P K out k = l := ⟨_, rfl⟩
          have hll : l.length = k := by rw [← hsl]; exact sort_len T P K out k
          have hmem : ∀ y ∈ l, ∃ c, c < 3 * T.length ∧ y = fromM T P K c := fun y hy => sort_mem (m := k) (fun n hn => HmP.out n (by omega)) (by rw [hsl]; exact hy)
          rw [hsl] at H2
          have HMem := Lib.hid hmem
          have Hll := Lib.hid hll
          have Hsl := Lib.hid hsl
          have Hll2 := Lib.hid hll
          clear hmem hll hsl
          go_loopw [11] (fun i wy => ∃ t : Nat, t ≤ k ∧ i = .int .i64 (t : Int) ∧ Below wx.heap.size wx wy ∧ ∀ y ∈ l.drop t, ltR rp y = true) (fun i _ => (intOf i).toNat)
          case atStart => exact ⟨k, Nat.le_refl _, rfl, Below.refl _ _, fun y hy => by rw [List.drop_of_length_le (Nat.le_of_eq Hll.out)] at hy; cases hy⟩
          case round =>
            rename World => wy
            obtain ⟨t, htk, rfl, hby, hall⟩ := hrel
            have HB := Lib.hid hby
            have HAl := Lib.hid hall
            have hzy : w1.heap.size ≤ wy.heap.size := Nat.le_trans H2.out.1.bel.size HB.out.size
            have HPW := Lib.hid (fun (W : World) (hW : Below wy.heap.size wy W) => (H2.out.1.below HB.out).below hW)
            have hq8 := (H2.out.2.1.below HB.out H2.out.2.1.lt)
            obtain ⟨l8, r0, r1, r2, r3⟩ := fourF hq8
            have HX8 := Lib.hid (fun (W : World) (hW : Below wy.heap.size wy W) => (show W.ownsRow w1.heap.size 72 3 (.slice aX nX cX) rp.T.length (ws3 rp.T) from own_below (own_below H2.out.2.2.1 HB.out) hW))
            have HY8 := Lib.hid (fun (W : World) (hW : Below wy.heap.size wy W) => (show W.ownsRow w1.heap.size 111 3 (.slice aY nY cY) rp.P.length (ws3 rp.P) from own_below (own_below H2.out.2.2.2.1 HB.out) hW))
            have HZ8 := Lib.hid (fun (W : World) (hW : Below wy.heap.size wy W) => (show W.ownsRow w1.heap.size 3 1 (.slice aZ nZ cZ) rp.K.length (intsV rp.K) from own_below (own_below H2.out.2.2.2.2 HB.out) hW))
            have HQ8 := Lib.hid (fun (W : World) (hW : Below wy.heap.size wy W) => hq8.below hW l8)
            obtain ⟨cb, hcb⟩ : ∃ cb : Bool, (if h : 0 < t ∧ t - 1 < l.length then ltR rp (l[t - 1]'h.2) else false) = cb := ⟨_, rfl⟩
            have HCb := Lib.hid hcb
            clear hby hall hq8 hcb
            go_upto_region 17 with fail
            go_cut [69] (fun v69 W => v69 = .bool cb ∧ Below wy.heap.size wy W)
            case first =>
              by_cases ht0 : 0 < t
              · have htl : t - 1 < l.length := by rw [Hll.out]; omega
                obtain ⟨x, hx, hlx, hox⟩ := (HPW.out _ (Below.refl _ _)).get htl
                obtain ⟨g0, c0, c1, c2, c3⟩ := (HPW.out _ (Below.refl _ _)).cells hx
                obtain ⟨aTx, cTx, hvx⟩ := ownsRow_slice hox.2.1
                obtain ⟨aPx, cPx, hvp⟩ := ownsRow_slice hox.2.2.1
                obtain ⟨aKx, cKx, hvk⟩ := ownsRow_slice hox.2.2.2
                obtain ⟨N9, vT9, vP9, vK9, m9⟩ := x
                simp only at hvx hvp hvk hox hlx c0 c1 c2 c3
                subst hvx
                subst hvp
                subst hvk
                obtain ⟨t1, ht1⟩ : ∃ t1, t - 1 = t1 := ⟨_, rfl⟩
                rw [ht1] at c0 c1 c2 c3
                have d0 := cell_regrown c0
                have d1 := cell_regrown c1
                have d2 := cell_regrown c2
                have d3 := cell_regrown c3
                have e0 := cell_regrown r0
                have e1 := cell_regrown r1
                have e2 := cell_regrown r2
                have e3 := cell_regrown r3
                have hti : (t : Int) - 1 = (t1 : Int) := by omega
                have ht1k : (t1 : Int) < (k : Int) := by omega
                have hd0 : decide ((0 : Int) < (t : Int)) = true := by simp; omega
                have hm9 : m9 = l[t - 1] := by rw [List.getElem?_eq_getElem htl] at hlx; exact (Option.some.inj hlx).symm
                obtain ⟨c9, hc9, he9⟩ := HMem.out m9 (by rw [hm9]; exact List.getElem_mem htl)
                have hcb : cb = decide (0 < cmpL (bodM m9.N m9.T m9.P m9.K) (bodM rp.N rp.T rp.P rp.K)) := by
                  rw [← HCb.out, dif_pos ⟨ht0, htl⟩, ← hm9, rec_ltB]
                have hN9 : N9 = m9.N := hox.1
                subst hN9
                have hlens9 := from_len T P K hc9
                have hlr9 := (rtN_lens (T := T) hc9).2.1
                rw [← he9] at hlens9
                have hF9 := HF.out
                have heq9 : ordM m9.N m9.T rp.N rp.T = 0 → m9.P.length = rp.P.length ∧ m9.K.length = rp.K.length := by
                  rw [he9, ← Hrp.out]
                  exact from_eqlen T P K
                have hOr : ∀ (W : World), Below wy.heap.size wy W → Calls Tryz.prog 64 #[.agg #[.int .i64 m9.N, .slice aTx m9.T.length cTx, .slice aPx m9.P.length cPx, .slice aKx m9.K.length cKx], .agg #[.int .i64 rp.N, .slice aX nX cX, .slice aY nY cY, .slice aZ nZ cZ]] W fun e w' => e = .returned (.int .i64 (cmpL (bodM m9.N m9.T m9.P m9.K) (bodM rp.N rp.T rp.P rp.K))) ∧ Below W.heap.size W w' := fun W hW =>
                  bodies_any m9.N rp.N _ _ _ _ _ _ m9.T rp.T m9.P rp.P m9.K rp.K W (TrisRd.of_row (own_below hox.2.1 hW)) (TrisRd.of_row (HX8.out W hW)) (TrisRd.of_pts (own_below hox.2.2.1 hW)) (TrisRd.of_pts (HY8.out W hW)) (IntsRd.of_row (own_below hox.2.2.2 hW) rfl) (IntsRd.of_row (HZ8.out W hW) rfl) (by omega) (by have := Hlen.out.1; omega) (by omega) (by omega) heq9
                generalize cmpL (bodM m9.N m9.T m9.P m9.K) (bodM rp.N rp.T rp.P rp.K) = om at *
                have HOr := Lib.hid hOr
                clear hOr hox hlx he9 hm9 hx heq9 hlens9 hlr9 hF9
                refine wp_region_quiet_below (by kernel_rfl) (by kernel_rfl) ?_
                repeat (go_big_quiet_step ((go_at_call 64; exact Calls.regrown_of (HOr.out _ (below_regrown _ _ _)))))
                refine wpQuiet_nil ?_
                intro _ hw'
                obtain ⟨⟨dq, osq⟩, hw''⟩ := hw'
                have hb3 := below_regrown wy dq osq
                subst hw''
                generalize Sort.grow (redrawn wy dq) osq = w3 at *
                go_wp2_with fail
                go_meet
                exact ⟨by rw [hcb], hb3⟩
              · obtain rfl : t = 0 := by omega
                have hcb : cb = false := by rw [← HCb.out, dif_neg (by omega)]
                refine wp_region_quiet_below (by kernel_rfl) (by kernel_rfl) ?_
                repeat (go_big_quiet_step (fail))
                refine wpQuiet_nil ?_
                intro _ hw'
                obtain ⟨⟨dq, osq⟩, hw''⟩ := hw'
                have hb3 := below_regrown wy dq osq
                subst hw''
                generalize Sort.grow (redrawn wy dq) osq = w3 at *
                go_wp2_with fail
                go_meet
                exact ⟨by rw [hcb], hb3⟩
            case rest =>
              obtain ⟨rfl, hbC⟩ := hcut
              rename World => wd
              have HBd := Lib.hid (HB.out.trans (hbC.mono HB.out.size))
              cases cb with
              | true =>
                have h9 := HCb.out
                have ht0 : 0 < t := by
                  refine Classical.byContradiction fun hn => ?_
                  rw [dif_neg (fun h => hn h.1)] at h9
                  cases h9
                have htl : t - 1 < l.length := by rw [Hll.out]; omega
                rw [dif_pos ⟨ht0, htl⟩] at h9
                have HAl2 := Lib.hid (show ∀ y ∈ l.drop (t - 1), ltR rp y = true from by
                  intro y hy
                  rw [List.drop_eq_getElem_cons htl] at hy
                  rcases List.mem_cons.1 hy with rfl | hy
                  · exact h9
                  · rw [show t - 1 + 1 = t from by omega] at hy
                    exact HAl.out y hy)
                clear h9 htl
                obtain ⟨t1, rfl⟩ : ∃ t1, t = t1 + 1 := ⟨t - 1, by omega⟩
                clear r0 r1 r2 r3 l8 hbC
                go_wp2
                go_roundw
                case measure => simp [intOf]
                case rel => exact ⟨t1, by omega, by go_num, HBd.out, HAl2.out⟩
              | false =>
                have HEx := Lib.hid (show ∀ y, 0 < t → l[t - 1]? = some y → ltR rp y = false from by
                  intro y h0 hy
                  have h9 := HCb.out
                  obtain ⟨hl9, e9⟩ := List.getElem?_eq_some_iff.1 hy
                  rw [dif_pos ⟨h0, hl9⟩, e9] at h9
                  exact h9)
                obtain ⟨hlq, q0, q1, q2, q3⟩ := fourF (HQ8.out wd hbC)
                have hpw := HPW.out wd hbC
                have hxl := hpw.len
                rw [Hll.out] at hxl
                have HPd := Lib.hid (fun (W : World) (hW : Below wd.heap.size wd W) => hpw.below hW)
                have HpO := Lib.hid (fun (W : World) (hW : Below wd.heap.size wd W) => (show PbOwn W w1.heap.size ⟨rp.N, .slice aX nX cX, .slice aY nY cY, .slice aZ nZ cZ, rp⟩ from by
                  exact ⟨rfl, own_below (HX8.out wd hbC) hW, own_below (HY8.out wd hbC) hW, own_below (HZ8.out wd hbC) hW⟩))
                have HL9 := Lib.hid (show sortM T P K out (k + 1) = l.take t ++ rp :: l.drop t from by
                  rw [Hsu.out, Hsl.out, Hrp.out]
                  exact insB_at HAl.out HEx.out (by rw [Hll.out]; exact htk))
                have HQd := Lib.hid (fun (W : World) (hW : Below wd.heap.size wd W) => (HQ8.out wd hbC).below hW hlq)
                have hcap : k ≤ cL := by have := own_capP hpw.row; omega
                have hgL := (hpw.row.lt gL rfl).2
                have hzd : w1.heap.size ≤ wd.heap.size := Nat.le_trans hzy hbC.size
                clear r0 r1 r2 r3 l8 hbC hpw
                have htc : (t : Int) ≤ (cL : Int) := by omega
                have htk2 : (t : Int) ≤ (k : Int) := by omega
                have hkc2 : (k : Int) ≤ (cL : Int) := by omega
                have hzd9 := hzd
                by_cases hct : cL = t
                · subst hct
                  obtain rfl : k = cL := by omega
                  have HkT := Lib.hid (show k + 1 + 0 = k + 1 from rfl)
                  go_upto_region 19 with fail
                  have hE1 : Below wd.heap.size wd (wd.alloc (.cells #[] 65)).drew := ((Below.refl _ _).alloc (Nat.le_refl _) _).drew
                  have hEP : Below wd.heap.size wd ((wd.alloc (.cells #[] 65)).alloc (.cells #[.int .i64 rp.N, .slice aX nX cX, .slice aY nY cY, .slice aZ nZ cZ] 65)).drew := (((Below.refl _ _).alloc (Nat.le_refl _) _).alloc (by simp) _).drew
                  have hPE : Below wd.heap.size wd ((wd.alloc (.cells #[.int .i64 rp.N, .slice aX nX cX, .slice aY nY cY, .slice aZ nZ cZ] 65)).alloc (.cells #[] 65)).drew := (((Below.refl _ _).alloc (Nat.le_refl _) _).alloc (by simp) _).drew
                  have oE1 : (wd.alloc (.cells #[] 65)).drew.ownsRow wd.heap.size 65 4 (.slice (some ⟨wd.heap.size, 0, none⟩) 0 0) 0 [] := own_nil_body (Blk.new wd _ _).drew (Nat.le_refl _)
                  have oEP : ((wd.alloc (.cells #[] 65)).alloc (.cells #[.int .i64 rp.N, .slice aX nX cX, .slice aY nY cY, .slice aZ nZ cZ] 65)).drew.ownsRow wd.heap.size 65 4 (.slice (some ⟨wd.heap.size, 0, none⟩) 0 0) 0 [] := own_nil_body ((Blk.new wd _ _).alloc _).drew (Nat.le_refl _)
                  have oPE : ((wd.alloc (.cells #[.int .i64 rp.N, .slice aX nX cX, .slice aY nY cY, .slice aZ nZ cZ] 65)).alloc (.cells #[] 65)).drew.ownsRow wd.heap.size 65 4 (.slice (some ⟨wd.heap.size + 1, 0, none⟩) 0 0) 0 [] := own_nil_body (Blk.drew (blk_new_at (by simp))) (by omega)
                  have bEP : Blk ((wd.alloc (.cells #[] 65)).alloc (.cells #[.int .i64 rp.N, .slice aX nX cX, .slice aY nY cY, .slice aZ nZ cZ] 65)).drew (wd.heap.size + 1) 65 #[.int .i64 rp.N, .slice aX nX cX, .slice aY nY cY, .slice aZ nZ cZ] := Blk.drew (blk_new_at (by simp))
                  have bPE : Blk ((wd.alloc (.cells #[.int .i64 rp.N, .slice aX nX cX, .slice aY nY cY, .slice aZ nZ cZ] 65)).alloc (.cells #[] 65)).drew wd.heap.size 65 #[.int .i64 rp.N, .slice aX nX cX, .slice aY nY cY, .slice aZ nZ cZ] := ((Blk.new wd _ _).alloc _).drew
                  have HOrd := Lib.hid (And.intro hE1 (And.intro oE1 (And.intro hEP (And.intro oEP (And.intro bEP (And.intro hPE (And.intro oPE bPE)))))))
                  clear hE1 hEP hPE oE1 oEP oPE bEP bPE
                  have c63 : 0 + k ≤ maxLen := by unfold maxLen; omega
                  have cby : (0 + k) * 80 ≤ 140737488355328 := by omega
                  have cA : ∀ y ∈ (xs.flatMap PbV.enc).take (k * 4), y.oneCell' = true := fun y hy => (HPd.out wd (Below.refl _ _)).one y (List.mem_of_mem_take hy)
                  have HcA := Lib.hid cA
                  clear cA
                  have HSt := Lib.hid (fun (W : World) (hW : Below wd.heap.size wd W) => own_prefixB' (HPd.out W hW) htk)
                  have HoP := Lib.hid (show ∀ y ∈ [Value.int .i64 rp.N, .slice aX nX cX, .slice aY nY cY, .slice aZ nZ cZ], y.oneCell' = true from fun y hy => by
                    simp only [List.mem_cons, List.not_mem_nil, or_false] at hy
                    rcases hy with rfl | rfl | rfl | rfl <;> rfl)
                  have HcD := Lib.hid (show ∀ y ∈ (xs.flatMap PbV.enc).drop (k * 4), y.oneCell' = true from fun y hy => (HPd.out wd (Below.refl _ _)).one y (List.mem_of_mem_drop hy))
                  have HlD := Lib.hid (show ((xs.flatMap PbV.enc).drop (k * 4)).length = 0 * 4 from by rw [List.length_drop, flat_len4]; omega)
                  have HNw := Lib.hid (fun (W : World) (hW : Below wd.heap.size wd W) => (HPd.out W hW).news (t := k))
                  have c64 : k + 1 ≤ maxLen := by unfold maxLen; omega
                  have cby2 : (k + 1) * 80 ≤ 140737488355328 := by omega
                  have c65 : k + 1 + 0 ≤ maxLen := by unfold maxLen; omega
                  have cby3 : (k + 1 + 0) * 80 ≤ 140737488355328 := by omega
                  have hxl9 := Lib.hid hxl
                  clear hxl
                  go_region_held3 (fun w' => w'.cell? ⟨q8, 0, none⟩ = some (.int .i64 rp.N) ∧ w'.cell? ⟨q8, 1, none⟩ = some (.slice aX nX cX) ∧ w'.cell? ⟨q8, 2, none⟩ = some (.slice aY nY cY) ∧ w'.cell? ⟨q8, 3, none⟩ = some (.slice aZ nZ cZ)) (first | go_keep | exact ⟨(HQd.out _ (by assumption)).cell 0, (HQd.out _ (by assumption)).cell 1, (HQd.out _ (by assumption)).cell 2, (HQd.out _ (by assumption)).cell 3⟩)
                    (first
                    | (refine step_append_any (wd.alloc (.cells #[] 65)).drew (by rfl) (.tmp 72) (.tmp 75) 112 (by rfl) wd.heap.size 65 iP _ 4 80 Tryz.underlying112 hjP bP0 bP1 bP2 (by rfl) (by decide) _ 0 [] (by rfl) HOrd.out.2.1 w1.heap.size (.slice (some ⟨gL, 0, none⟩) k k) k ((xs.flatMap PbV.enc).take (k * 4)) (by rfl) (HSt.out _ HOrd.out.1) HcA.out c63 cby (by simp; try omega) ?_; intro vA WA hrA hgA hatA; rw [Nat.zero_add, List.nil_append] at hrA; have hBA := HOrd.out.1.grown hgA (by simp; try omega) (fun j e => (HOrd.out.2.1.lt j e).1); obtain ⟨aA, cA, rfl⟩ := ownsRow_slice hrA; clear hgA hatA)
                    | (refine step_append_any ((wd.alloc (.cells #[] 65)).alloc (.cells #[.int .i64 rp.N, .slice aX nX cX, .slice aY nY cY, .slice aZ nZ cZ] 65)).drew (by rfl) (.tmp 72) (.tmp 75) 112 (by rfl) wd.heap.size 65 iP _ 4 80 Tryz.underlying112 hjP bP0 bP1 bP2 (by rfl) (by decide) _ 0 [] (by rfl) HOrd.out.2.2.2.1 w1.heap.size (.slice (some ⟨gL, 0, none⟩) k k) k ((xs.flatMap PbV.enc).take (k * 4)) (by rfl) (HSt.out _ HOrd.out.2.2.1) HcA.out c63 cby (by simp; try omega) ?_; intro vA WA hrA hgA hatA; rw [Nat.zero_add, List.nil_append] at hrA; have hBA := HOrd.out.2.2.1.grown hgA (by simp; try omega) (fun j e => (HOrd.out.2.2.2.1.lt j e).1); obtain ⟨aA, cA, rfl⟩ := ownsRow_slice hrA; have hPA := HOrd.out.2.2.2.2.1.grown hgA (by simp [Value.ownBlock]); have hnA : (Value.slice aA k cA).ownBlock ≠ some (wd.heap.size + 1) := (by rcases hatA with h | h <;> rw [h] <;> simp [Value.ownBlock] <;> omega); clear hgA hatA)
                    | (refine step_append_any ((wd.alloc (.cells #[.int .i64 rp.N, .slice aX nX cX, .slice aY nY cY, .slice aZ nZ cZ] 65)).alloc (.cells #[] 65)).drew (by rfl) (.tmp 72) (.tmp 75) 112 (by rfl) wd.heap.size 65 iP _ 4 80 Tryz.underlying112 hjP bP0 bP1 bP2 (by rfl) (by decide) _ 0 [] (by rfl) HOrd.out.2.2.2.2.2.2.1 w1.heap.size (.slice (some ⟨gL, 0, none⟩) k k) k ((xs.flatMap PbV.enc).take (k * 4)) (by rfl) (HSt.out _ HOrd.out.2.2.2.2.2.1) HcA.out c63 cby (by simp; try omega) ?_; intro vA WA hrA hgA hatA; rw [Nat.zero_add, List.nil_append] at hrA; have hBA := HOrd.out.2.2.2.2.2.1.grown hgA (by simp; try omega) (fun j e => (HOrd.out.2.2.2.2.2.2.1.lt j e).1); obtain ⟨aA, cA, rfl⟩ := ownsRow_slice hrA; have hPA := HOrd.out.2.2.2.2.2.2.2.grown hgA (by simp [Value.ownBlock]); have hnA : (Value.slice aA k cA).ownBlock ≠ some (wd.heap.size) := (by rcases hatA with h | h <;> rw [h] <;> simp [Value.ownBlock] <;> omega); clear hgA hatA)
                    | (refine step_append_at (WA.alloc (.cells #[.int .i64 rp.N, .slice aX nX cX, .slice aY nY cY, .slice aZ nZ cZ] 65)) (by rfl) (.tmp 76) (.tmp 78) 112 (by rfl) wd.heap.size 65 iP _ 4 80 Tryz.underlying112 hjP bP0 bP1 bP2 (by rfl) (by decide) (.slice aA k cA) k ((xs.flatMap PbV.enc).take (k * 4)) (by rfl) (own_alloc9 hrA _) ⟨WA.heap.size, 0, none⟩ 1 1 [.int .i64 rp.N, .slice aX nX cX, .slice aY nY cY, .slice aZ nZ cZ] (by rfl) (by rfl) (World.news_of_block (blk_new_at (by simp))) HoP.out c64 cby2 (by have := hBA.size; simp; try omega) ?_; intro vB WB hrB hgB hatB; have hBB := (hBA.alloc hBA.size _).grown hgB (by have := hBA.size; simp; try omega) (fun j e => (hrA.lt j e).1); obtain ⟨aB, cB, rfl⟩ := ownsRow_slice hrB; clear hgB hatB)
                    | (refine step_append_at (WA) (by rfl) (.tmp 76) (.tmp 78) 112 (by rfl) wd.heap.size 65 iP _ 4 80 Tryz.underlying112 hjP bP0 bP1 bP2 (by rfl) (by decide) (.slice aA k cA) k ((xs.flatMap PbV.enc).take (k * 4)) (by rfl) hrA ⟨wd.heap.size + 1, 0, none⟩ 1 1 [.int .i64 rp.N, .slice aX nX cX, .slice aY nY cY, .slice aZ nZ cZ] (by rfl) (by rfl) (World.news_of_block hPA) HoP.out c64 cby2 (by have := hBA.size; simp; try omega) ?_; intro vB WB hrB hgB hatB; have hBB := hBA.grown hgB (by have := hBA.size; simp; try omega) (fun j e => (hrA.lt j e).1); obtain ⟨aB, cB, rfl⟩ := ownsRow_slice hrB; clear hgB hatB)
                    | (refine step_append_at (WA) (by rfl) (.tmp 76) (.tmp 78) 112 (by rfl) wd.heap.size 65 iP _ 4 80 Tryz.underlying112 hjP bP0 bP1 bP2 (by rfl) (by decide) (.slice aA k cA) k ((xs.flatMap PbV.enc).take (k * 4)) (by rfl) hrA ⟨wd.heap.size, 0, none⟩ 1 1 [.int .i64 rp.N, .slice aX nX cX, .slice aY nY cY, .slice aZ nZ cZ] (by rfl) (by rfl) (World.news_of_block hPA) HoP.out c64 cby2 (by have := hBA.size; simp; try omega) ?_; intro vB WB hrB hgB hatB; have hBB := hBA.grown hgB (by have := hBA.size; simp; try omega) (fun j e => (hrA.lt j e).1); obtain ⟨aB, cB, rfl⟩ := ownsRow_slice hrB; clear hgB hatB)
                    | (refine step_append_at WB (by rfl) (.tmp 79) (.tmp 82) 112 (by rfl) wd.heap.size 65 iP _ 4 80 Tryz.underlying112 hjP bP0 bP1 bP2 (by rfl) (by decide) (.slice aB (k + 1) cB) (k + 1) _ (by rfl) hrB ⟨gL, 0, none⟩ 0 0 ((xs.flatMap PbV.enc).drop (k * 4)) (by rfl) HlD.out (fun j u hj => by rw [List.eq_nil_of_length_eq_zero HlD.out] at hj; cases hj) HcD.out c65 cby3 (by have := hBB.size; omega) ?_; intro vC WC hrC hgC hatC; have hBC := hBB.grown hgC (by have := hBB.size; omega) (fun j e => (hrB.lt j e).1); obtain ⟨g9, c9, rfl⟩ := own_some hrC (n := k) HkT.out; clear hgC hatC)
                    | (fail "zz"))
                  all_goals
                    have HPn := Lib.hid (PtSt.ins (p := ⟨rp.N, .slice aX nX cX, .slice aY nY cY, .slice aZ nZ cZ, rp⟩) (t := k) (HPd.out wd (Below.refl _ _)) (HpO.out _ hBC) hBC (by rw [List.nil_append]; exact own_lower hrC hzd) (by have := hxl9.out; omega) (by have := hxl9.out; omega) HL9.out)
                    clear hrC hBC hrB hBB hrA hBA
                    go_wp2
                    go_roundw
                    case measure => simp [intOf]; omega
                    case rel => exact ⟨k + 1, by omega, by go_num, g9, c9, _, rfl, HPn.out⟩
                · have HkT := Lib.hid (show t + 1 + (k - t) = k + 1 from by omega)
                  go_upto_region 19 with fail
                  have hE1 : Below wd.heap.size wd (wd.alloc (.cells #[] 65)).drew := ((Below.refl _ _).alloc (Nat.le_refl _) _).drew
                  have hEP : Below wd.heap.size wd ((wd.alloc (.cells #[] 65)).alloc (.cells #[.int .i64 rp.N, .slice aX nX cX, .slice aY nY cY, .slice aZ nZ cZ] 65)).drew := (((Below.refl _ _).alloc (Nat.le_refl _) _).alloc (by simp) _).drew
                  have hPE : Below wd.heap.size wd ((wd.alloc (.cells #[.int .i64 rp.N, .slice aX nX cX, .slice aY nY cY, .slice aZ nZ cZ] 65)).alloc (.cells #[] 65)).drew := (((Below.refl _ _).alloc (Nat.le_refl _) _).alloc (by simp) _).drew
                  have oE1 : (wd.alloc (.cells #[] 65)).drew.ownsRow wd.heap.size 65 4 (.slice (some ⟨wd.heap.size, 0, none⟩) 0 0) 0 [] := own_nil_body (Blk.new wd _ _).drew (Nat.le_refl _)
                  have oEP : ((wd.alloc (.cells #[] 65)).alloc (.cells #[.int .i64 rp.N, .slice aX nX cX, .slice aY nY cY, .slice aZ nZ cZ] 65)).drew.ownsRow wd.heap.size 65 4 (.slice (some ⟨wd.heap.size, 0, none⟩) 0 0) 0 [] := own_nil_body ((Blk.new wd _ _).alloc _).drew (Nat.le_refl _)
                  have oPE : ((wd.alloc (.cells #[.int .i64 rp.N, .slice aX nX cX, .slice aY nY cY, .slice aZ nZ cZ] 65)).alloc (.cells #[] 65)).drew.ownsRow wd.heap.size 65 4 (.slice (some ⟨wd.heap.size + 1, 0, none⟩) 0 0) 0 [] := own_nil_body (Blk.drew (blk_new_at (by simp))) (by omega)
                  have bEP : Blk ((wd.alloc (.cells #[] 65)).alloc (.cells #[.int .i64 rp.N, .slice aX nX cX, .slice aY nY cY, .slice aZ nZ cZ] 65)).drew (wd.heap.size + 1) 65 #[.int .i64 rp.N, .slice aX nX cX, .slice aY nY cY, .slice aZ nZ cZ] := Blk.drew (blk_new_at (by simp))
                  have bPE : Blk ((wd.alloc (.cells #[.int .i64 rp.N, .slice aX nX cX, .slice aY nY cY, .slice aZ nZ cZ] 65)).alloc (.cells #[] 65)).drew wd.heap.size 65 #[.int .i64 rp.N, .slice aX nX cX, .slice aY nY cY, .slice aZ nZ cZ] := ((Blk.new wd _ _).alloc _).drew
                  have HOrd := Lib.hid (And.intro hE1 (And.intro oE1 (And.intro hEP (And.intro oEP (And.intro bEP (And.intro hPE (And.intro oPE bPE)))))))
                  clear hE1 hEP hPE oE1 oEP oPE bEP bPE
                  have c63 : 0 + t ≤ maxLen := by unfold maxLen; omega
                  have cby : (0 + t) * 80 ≤ 140737488355328 := by omega
                  have cA : ∀ y ∈ (xs.flatMap PbV.enc).take (t * 4), y.oneCell' = true := fun y hy => (HPd.out wd (Below.refl _ _)).one y (List.mem_of_mem_take hy)
                  have HcA := Lib.hid cA
                  clear cA
                  have HSt := Lib.hid (fun (W : World) (hW : Below wd.heap.size wd W) => own_prefixB' (HPd.out W hW) htk)
                  have HoP := Lib.hid (show ∀ y ∈ [Value.int .i64 rp.N, .slice aX nX cX, .slice aY nY cY, .slice aZ nZ cZ], y.oneCell' = true from fun y hy => by
                    simp only [List.mem_cons, List.not_mem_nil, or_false] at hy
                    rcases hy with rfl | rfl | rfl | rfl <;> rfl)
                  have HcD := Lib.hid (show ∀ y ∈ (xs.flatMap PbV.enc).drop (t * 4), y.oneCell' = true from fun y hy => (HPd.out wd (Below.refl _ _)).one y (List.mem_of_mem_drop hy))
                  have HlD := Lib.hid (show ((xs.flatMap PbV.enc).drop (t * 4)).length = (k - t) * 4 from by rw [List.length_drop, flat_len4]; omega)
                  have HNw := Lib.hid (fun (W : World) (hW : Below wd.heap.size wd W) => (HPd.out W hW).news (t := t))
                  have c64 : t + 1 ≤ maxLen := by unfold maxLen; omega
                  have cby2 : (t + 1) * 80 ≤ 140737488355328 := by omega
                  have c65 : t + 1 + (k - t) ≤ maxLen := by unfold maxLen; omega
                  have cby3 : (t + 1 + (k - t)) * 80 ≤ 140737488355328 := by omega
                  have hxl9 := Lib.hid hxl
                  clear hxl
                  go_region_held3 (fun w' => w'.cell? ⟨q8, 0, none⟩ = some (.int .i64 rp.N) ∧ w'.cell? ⟨q8, 1, none⟩ = some (.slice aX nX cX) ∧ w'.cell? ⟨q8, 2, none⟩ = some (.slice aY nY cY) ∧ w'.cell? ⟨q8, 3, none⟩ = some (.slice aZ nZ cZ)) (first | go_keep | exact ⟨(HQd.out _ (by assumption)).cell 0, (HQd.out _ (by assumption)).cell 1, (HQd.out _ (by assumption)).cell 2, (HQd.out _ (by assumption)).cell 3⟩)
                    (first
                    | (refine step_append_any (wd.alloc (.cells #[] 65)).drew (by rfl) (.tmp 72) (.tmp 75) 112 (by rfl) wd.heap.size 65 iP _ 4 80 Tryz.underlying112 hjP bP0 bP1 bP2 (by rfl) (by decide) _ 0 [] (by rfl) HOrd.out.2.1 w1.heap.size (.slice (some ⟨gL, 0, none⟩) t cL) t ((xs.flatMap PbV.enc).take (t * 4)) (by rfl) (HSt.out _ HOrd.out.1) HcA.out c63 cby (by simp; try omega) ?_; intro vA WA hrA hgA hatA; rw [Nat.zero_add, List.nil_append] at hrA; have hBA := HOrd.out.1.grown hgA (by simp; try omega) (fun j e => (HOrd.out.2.1.lt j e).1); obtain ⟨aA, cA, rfl⟩ := ownsRow_slice hrA; clear hgA hatA)
                    | (refine step_append_any ((wd.alloc (.cells #[] 65)).alloc (.cells #[.int .i64 rp.N, .slice aX nX cX, .slice aY nY cY, .slice aZ nZ cZ] 65)).drew (by rfl) (.tmp 72) (.tmp 75) 112 (by rfl) wd.heap.size 65 iP _ 4 80 Tryz.underlying112 hjP bP0 bP1 bP2 (by rfl) (by decide) _ 0 [] (by rfl) HOrd.out.2.2.2.1 w1.heap.size (.slice (some ⟨gL, 0, none⟩) t cL) t ((xs.flatMap PbV.enc).take (t * 4)) (by rfl) (HSt.out _ HOrd.out.2.2.1) HcA.out c63 cby (by simp; try omega) ?_; intro vA WA hrA hgA hatA; rw [Nat.zero_add, List.nil_append] at hrA; have hBA := HOrd.out.2.2.1.grown hgA (by simp; try omega) (fun j e => (HOrd.out.2.2.2.1.lt j e).1); obtain ⟨aA, cA, rfl⟩ := ownsRow_slice hrA; have hPA := HOrd.out.2.2.2.2.1.grown hgA (by simp [Value.ownBlock]); have hnA : (Value.slice aA t cA).ownBlock ≠ some (wd.heap.size + 1) := (by rcases hatA with h | h <;> rw [h] <;> simp [Value.ownBlock] <;> omega); clear hgA hatA)
                    | (refine step_append_any ((wd.alloc (.cells #[.int .i64 rp.N, .slice aX nX cX, .slice aY nY cY, .slice aZ nZ cZ] 65)).alloc (.cells #[] 65)).drew (by rfl) (.tmp 72) (.tmp 75) 112 (by rfl) wd.heap.size 65 iP _ 4 80 Tryz.underlying112 hjP bP0 bP1 bP2 (by rfl) (by decide) _ 0 [] (by rfl) HOrd.out.2.2.2.2.2.2.1 w1.heap.size (.slice (some ⟨gL, 0, none⟩) t cL) t ((xs.flatMap PbV.enc).take (t * 4)) (by rfl) (HSt.out _ HOrd.out.2.2.2.2.2.1) HcA.out c63 cby (by simp; try omega) ?_; intro vA WA hrA hgA hatA; rw [Nat.zero_add, List.nil_append] at hrA; have hBA := HOrd.out.2.2.2.2.2.1.grown hgA (by simp; try omega) (fun j e => (HOrd.out.2.2.2.2.2.2.1.lt j e).1); obtain ⟨aA, cA, rfl⟩ := ownsRow_slice hrA; have hPA := HOrd.out.2.2.2.2.2.2.2.grown hgA (by simp [Value.ownBlock]); have hnA : (Value.slice aA t cA).ownBlock ≠ some (wd.heap.size) := (by rcases hatA with h | h <;> rw [h] <;> simp [Value.ownBlock] <;> omega); clear hgA hatA)
                    | (refine step_append_at (WA.alloc (.cells #[.int .i64 rp.N, .slice aX nX cX, .slice aY nY cY, .slice aZ nZ cZ] 65)) (by rfl) (.tmp 76) (.tmp 78) 112 (by rfl) wd.heap.size 65 iP _ 4 80 Tryz.underlying112 hjP bP0 bP1 bP2 (by rfl) (by decide) (.slice aA t cA) t ((xs.flatMap PbV.enc).take (t * 4)) (by rfl) (own_alloc9 hrA _) ⟨WA.heap.size, 0, none⟩ 1 1 [.int .i64 rp.N, .slice aX nX cX, .slice aY nY cY, .slice aZ nZ cZ] (by rfl) (by rfl) (World.news_of_block (blk_new_at (by simp))) HoP.out c64 cby2 (by have := hBA.size; simp; try omega) ?_; intro vB WB hrB hgB hatB; have hBB := (hBA.alloc hBA.size _).grown hgB (by have := hBA.size; simp; try omega) (fun j e => (hrA.lt j e).1); obtain ⟨aB, cB, rfl⟩ := ownsRow_slice hrB; clear hgB hatB)
                    | (refine step_append_at (WA) (by rfl) (.tmp 76) (.tmp 78) 112 (by rfl) wd.heap.size 65 iP _ 4 80 Tryz.underlying112 hjP bP0 bP1 bP2 (by rfl) (by decide) (.slice aA t cA) t ((xs.flatMap PbV.enc).take (t * 4)) (by rfl) hrA ⟨wd.heap.size + 1, 0, none⟩ 1 1 [.int .i64 rp.N, .slice aX nX cX, .slice aY nY cY, .slice aZ nZ cZ] (by rfl) (by rfl) (World.news_of_block hPA) HoP.out c64 cby2 (by have := hBA.size; simp; try omega) ?_; intro vB WB hrB hgB hatB; have hBB := hBA.grown hgB (by have := hBA.size; simp; try omega) (fun j e => (hrA.lt j e).1); obtain ⟨aB, cB, rfl⟩ := ownsRow_slice hrB; clear hgB hatB)
                    | (refine step_append_at (WA) (by rfl) (.tmp 76) (.tmp 78) 112 (by rfl) wd.heap.size 65 iP _ 4 80 Tryz.underlying112 hjP bP0 bP1 bP2 (by rfl) (by decide) (.slice aA t cA) t ((xs.flatMap PbV.enc).take (t * 4)) (by rfl) hrA ⟨wd.heap.size, 0, none⟩ 1 1 [.int .i64 rp.N, .slice aX nX cX, .slice aY nY cY, .slice aZ nZ cZ] (by rfl) (by rfl) (World.news_of_block hPA) HoP.out c64 cby2 (by have := hBA.size; simp; try omega) ?_; intro vB WB hrB hgB hatB; have hBB := hBA.grown hgB (by have := hBA.size; simp; try omega) (fun j e => (hrA.lt j e).1); obtain ⟨aB, cB, rfl⟩ := ownsRow_slice hrB; clear hgB hatB)
                    | (refine step_append_at WB (by rfl) (.tmp 79) (.tmp 82) 112 (by rfl) wd.heap.size 65 iP _ 4 80 Tryz.underlying112 hjP bP0 bP1 bP2 (by rfl) (by decide) (.slice aB (t + 1) cB) (t + 1) _ (by rfl) hrB ⟨gL, t * 4, none⟩ (k - t) (cL - t) ((xs.flatMap PbV.enc).drop (t * 4)) (by rfl) HlD.out (HNw.out _ hBB) HcD.out c65 cby3 (by have := hBB.size; omega) ?_; intro vC WC hrC hgC hatC; have hBC := hBB.grown hgC (by have := hBB.size; omega) (fun j e => (hrB.lt j e).1); obtain ⟨g9, c9, rfl⟩ := own_some hrC (n := k) HkT.out; clear hgC hatC)
                    | (fail "zz"))
                  all_goals
                    have HPn := Lib.hid (PtSt.ins (p := ⟨rp.N, .slice aX nX cX, .slice aY nY cY, .slice aZ nZ cZ, rp⟩) (t := t) (HPd.out wd (Below.refl _ _)) (HpO.out _ hBC) hBC (by rw [List.nil_append]; exact own_lower hrC hzd) (by have := hxl9.out; omega) (by have := hxl9.out; omega) HL9.out)
                    clear hrC hBC hrB hBB hrA hBA
                    go_wp2
                    go_roundw
                    case measure => simp [intOf]; omega
                    case rel => exact ⟨k + 1, by omega, by go_num, g9, c9, _, rfl, HPn.out⟩
    · obtain rfl : k = m := by omega
      have HPm := Lib.hid (fun (W : World) (hW : Below wr.heap.size wr W) => hP.below hW)
      have hlen := sort_len T P K out k
      have HJ0 := Lib.hid (show FbSt wr (wr.alloc (.cells #[.int .i64 0, .slice none 0 0, .slice none 0 0, .slice none 0 0] 65)) wr.heap.size 0 [] [] [] (.slice none 0 0) (.slice none 0 0) (.slice none 0 0) from
        ⟨Blk.new wr _ _, World.ownsRow_nil _ _ _ _, World.ownsRow_nil _ _ _ _, World.ownsRow_nil _ _ _ _, (Below.refl _ _).alloc (Nat.le_refl _) _, Nat.le_refl _⟩)
      have hmem : ∀ y ∈ sortM T P K out k, ∃ c, c < 3 * T.length ∧ y = fromM T P K c := fun y hy => sort_mem (m := k) HmP.out hy
      have hbd := soups_bd (P := P) (K := K) Hsh.out HmP.out
      rw [HF.out] at hbd
      obtain ⟨l, hsl⟩ : ∃ l, sortM T P K out k = l := ⟨_, rfl⟩
      rw [hsl] at HPm hlen hmem hbd
      have HSl := Lib.hid hsl
      have HMem := Lib.hid hmem
      have hnn : ∀ x ∈ soupsM l, (0 : Int) ≤ x.1 := by
        intro x hx
        unfold soupsM at hx
        obtain ⟨r, hr, rfl⟩ := List.mem_map.1 hx
        obtain ⟨c, hc, rfl⟩ := hmem r hr
        show (0 : Int) ≤ ((rtN T c).1.length : Int)
        omega
      have hbP : ∀ r ∈ l, r.P.length ≤ 1000 := by
        intro r hr
        obtain ⟨c, hc, rfl⟩ := hmem r hr
        have h1 := from_len T P K hc
        have h2 := (rtN_lens hc).2.1
        have := HF.out
        omega
      have hbK : ∀ r ∈ l, r.K.length ≤ 1000 := by
        intro r hr
        obtain ⟨c, hc, rfl⟩ := hmem r hr
        have h1 := from_len T P K hc
        have h2 := (rtN_lens hc).2.1
        have := HF.out
        omega
      have HfP := Lib.hid (flat_bd (·.P) l 1000 hbP)
      have HfK := Lib.hid (flat_bd (·.K) l 1000 hbK)
      have HbP := Lib.hid hbP
      have HbK := Lib.hid hbK
      have HBdd := Lib.hid (fun j => joinM_bd (l := soupsM l) hnn j)
      have HNn := Lib.hid (fun j => joinM_nn (l := (soupsM l).take j) (fun x hx => hnn x (List.mem_of_mem_take hx)))
      have Hlen := Lib.hid hlen
      obtain ⟨hbd1, hbd2⟩ := hbd
      have hKr := HKr1.out.below hP.bel HKr1.out.lt
      have HKr2 := Lib.hid hKr
      have HBw := Lib.hid (HB1.out.trans (hP.bel.mono hz1))
      have hzw := (HB1.out.trans (hP.bel.mono hz1)).size
      have hd9 : decide ((k : Int) < (k : Int)) = false := by simp
      clear hsl hmem hnn hlen hP hKr hbP hbK
      go_wp2
      obtain ⟨i2, hj2, b20, b21, b22⟩ := info_parts infoInt9
      obtain ⟨i3, hj3, b30, b31, b32⟩ := info_parts infoTriJ
      obtain ⟨i4, hj4, b40, b41, b42⟩ := info_parts infoPt
      go_loopw [13] (fun i wx => ∃ j : Nat, j ≤ k ∧ i = .int .i64 (j : Int) ∧ ∃ vT vP vK, FbSt wr wx wr.heap.size (joinM ((soupsM l).take j)).1 (joinM ((soupsM l).take j)).2 ((l.take j).flatMap (·.P)) ((l.take j).flatMap (·.K)) vT vP vK) (fun i _ => k - (intOf i).toNat)
      case atStart => exact ⟨0, Nat.zero_le _, rfl, _, _, _, HJ0.out⟩
      case round =>
        rename World => wx
        obtain ⟨j, hj, rfl, vS, vPa, vKa, hI⟩ := hrel
        by_cases hlt : j < k
        · have hjl : j < l.length := by rw [Hlen.out]; exact hlt
          obtain ⟨x, hx, hlx, hox⟩ := (HPm.out _ hI.bel).get hjl
          obtain ⟨g0, c0, c1, c2, c3⟩ := (HPm.out _ hI.bel).cells hx
          have HCx := Lib.hid (fun (W : World) (hW : Below wr.heap.size wr W) => (HPm.out W hW).cells hx)
          have HOx := Lib.hid (fun (W : World) (hW : Below wr.heap.size wr W) => (HPm.out W hW).own x (List.mem_of_getElem? hx))
          obtain ⟨aTx, cTx, hvx⟩ := ownsRow_slice hox.2.1
          obtain ⟨aPx, cPx, hvp⟩ := ownsRow_slice hox.2.2.1
          obtain ⟨aKx, cKx, hvk⟩ := ownsRow_slice hox.2.2.2
          obtain ⟨N9, vT9, vP9, vK9, m9⟩ := x
          simp only at hvx hvp hvk hox hlx c0 c1 c2 c3 HCx HOx
          subst hvx
          subst hvp
          subst hvk
          have hN9 : N9 = m9.N := hox.1
          subst hN9
          have HS1 := Lib.hid (joinM_take (soupsM_get hlx))
          have HP1 := Lib.hid (flat_step (·.P) hlx)
          have HK1' := Lib.hid (flat_step (·.K) hlx)
          have hb1 := HBdd.out (j + 1)
          have hn1 := HNn.out j
          rw [HS1.out] at hb1
          have hfP := HfP.out j
          have hfK := HfK.out j
          have hmP := HbP.out m9 (List.mem_of_getElem? hlx)
          have hmK := HbK.out m9 (List.mem_of_getElem? hlx)
          rw [Hlen.out] at hfP hfK
          have hfP2 : ((l.take j).flatMap (·.P)).length ≤ 20000 := by
            have : k * 1000 ≤ 20 * 1000 := Nat.mul_le_mul_right _ hm20
            omega
          have hfK2 : ((l.take j).flatMap (·.K)).length ≤ 20000 := by
            have : k * 1000 ≤ 20 * 1000 := Nat.mul_le_mul_right _ hm20
            omega
          clear hfP hfK
          obtain ⟨c9, hc9, he9⟩ := HMem.out m9 (List.mem_of_getElem? hlx)
          have hm9N : 0 ≤ m9.N := by rw [he9]; show (0 : Int) ≤ ((rtN T c9).1.length : Int); omega
          have HFt := Lib.hid (show ∀ t ∈ m9.T, fitsM t m9.N from by rw [he9]; exact rtN_fitsM HS.out.simple hc9)
          obtain ⟨SN, hSN⟩ : ∃ SN, (joinM ((soupsM l).take j)).1 = SN := ⟨_, rfl⟩
          obtain ⟨ST, hST⟩ : ∃ ST, (joinM ((soupsM l).take j)).2 = ST := ⟨_, rfl⟩
          obtain ⟨PP, hPP⟩ : ∃ PP, (l.take j).flatMap (·.P) = PP := ⟨_, rfl⟩
          obtain ⟨KK, hKK⟩ : ∃ KK, (l.take j).flatMap (·.K) = KK := ⟨_, rfl⟩
          have HPP := Lib.hid hPP
          have HKK := Lib.hid hKK
          have HJ := Lib.hid (show joinS (joinM ((soupsM l).take j)) (m9.N, m9.T) = (SN + m9.N, ST ++ m9.T.map (shT SN)) from by unfold joinS; rw [hSN, hST])
          rw [HJ.out] at hb1
          rw [hPP] at hfP2
          rw [hKK] at hfK2
          rw [hSN, hST, hPP, hKK] at hI
          rw [hSN] at hn1
          obtain ⟨nT, hnT⟩ : ∃ nT, m9.T.length = nT := ⟨_, rfl⟩
          obtain ⟨nS, hnS⟩ : ∃ nS, ST.length = nS := ⟨_, rfl⟩
          have hlen2 : nS + nT ≤ F ∧ SN + m9.N ≤ 3 * (F : Int) := by
            have e1 : (ST ++ m9.T.map (shT SN)).length = nS + nT := by simp [hnS, hnT]
            simp only [e1] at hb1
            omega
          obtain ⟨hle1, hle2⟩ := hlen2
          have HI := Lib.hid hI
          have HnT := Lib.hid hnT
          have HnS := Lib.hid hnS
          have hjk : (j : Int) < (k : Int) := by omega
          have hzx := hI.bel.size
          rw [hnT] at c1
          clear hI hox hlx hx hb1 hSN hST hPP hKK hnT hnS he9 hjl c2 c3
          go_wp2
          go_loopw [14] (fun i wy => ∃ t : Nat, t ≤ nT ∧ i = .int .i64 (t : Int) ∧ ∃ vS, FbSt wr wy wr.heap.size SN (ST ++ (m9.T.take t).map (shT SN)) PP KK vS vPa vKa) (fun i _ => nT - (intOf i).toNat)
          case atStart => exact ⟨0, Nat.zero_le _, rfl, _, by simpa using HI.out⟩
          case round =>
            rename World => wy
            obtain ⟨t, ht, rfl, vS', hI'⟩ := hrel
            obtain ⟨g0, c0', c1', c2', c3'⟩ := HCx.out wy hI'.bel
            rw [HnT.out] at c1'
            by_cases hlj : t < nT
            · have hjT : t < m9.T.length := by rw [HnT.out]; exact hlj
              obtain ⟨⟨px, py, pz⟩, hp⟩ : ∃ t', m9.T[t]? = some t' := ⟨m9.T[t], List.getElem?_eq_getElem hjT⟩
              have hrd := TrisRd.of_row (HOx.out wy hI'.bel).2.1
              obtain ⟨a', c', e', -, -, hr⟩ := hrd
              simp only at e'
              cases e'
              obtain ⟨bT, oT, e2, hbT, s0, s1, s2⟩ := hr t px py pz hp
              subst e2
              obtain ⟨⟨p0, p1⟩, ⟨p2, p3⟩, ⟨p4, p5⟩, -⟩ := HFt.out _ (List.mem_of_getElem? hp)
              simp only at p0 p1 p2 p3 p4 p5
              obtain ⟨S9, hS9⟩ : ∃ S9, ST ++ (m9.T.take t).map (shT SN) = S9 := ⟨_, rfl⟩
              have hl9 : S9.length ≤ 1000 := by
                rw [← hS9, List.length_append, List.length_map, List.length_take, HnS.out]
                omega
              have HS9 := Lib.hid (show ST ++ (m9.T.take (t + 1)).map (shT SN) = S9 ++ [(px + SN, py + SN, pz + SN)] from by
                rw [← hS9, List.take_succ_eq_append_getElem hjT, List.map_append, ← List.append_assoc]
                congr 1
                have : m9.T[t] = (px, py, pz) := by rw [List.getElem?_eq_getElem hjT] at hp; exact Option.some.inj hp
                rw [this]
                rfl)
              rw [hS9] at hI'
              have hzy := hI'.bel.size
              obtain ⟨l4', u0, f0, u1, f1, u2, f2, u3, f3⟩ := fourH hI'.k4
              have HI' := Lib.hid hI'
              have c9' : S9.length + 1 ≤ maxLen := by unfold maxLen; omega
              have c8' : (S9.length + 1) * 24 ≤ 140737488355328 := by omega
              have hlj9 : (t : Int) < (nT : Int) := by omega
              clear hI' hS9 hr hp hjT c0' c2' c3'
              go_upto_region 26 with (at_builtin; go_loud (refine wpList_append_lies _ rfl (.tmp 113) (.tmp 133) 22 rfl wr.heap.size 72 i3 _ 3 24 Tryz.underlying22 hj3 b30 b31 b32 rfl (by decide) vS' S9.length (ws3 S9) rfl ((HI'.out.alloc (.cells #[.int .i64 px, .int .i64 py, .int .i64 pz] 72)).alloc (.cells #[.int .i64 (px + SN), .int .i64 (py + SN), .int .i64 (pz + SN)] 72)).rT ⟨wy.heap.size + 1, 0, none⟩ 1 1 [.int .i64 (px + SN), .int .i64 (py + SN), .int .i64 (pz + SN)] rfl rfl (World.news_of_block (blk_new_at (by simp))) (by simp [Value.oneCell']) (by decide) c9' c8' (by simp; omega) (wy.heap.size + 1 + 1) (by simp) ?_); go_loud (intro g8 cap8 W8 hr8 hg8 hat8 hlt8; have h9 := ((HI'.out.alloc (.cells #[.int .i64 px, .int .i64 py, .int .i64 pz] 72)).alloc (.cells #[.int .i64 (px + SN), .int .i64 (py + SN), .int .i64 (pz + SN)] 72)).appT hg8 (T4 := S9 ++ [(px + SN, py + SN, pz + SN)]) (v4 := .slice (some ⟨g8, 0, none⟩) (S9.length + 1) cap8) (by rw [ws3_snoc, List.length_append]; exact hr8); obtain ⟨lx8, z0, q0, z1, q1, z2, q2, z3, q3⟩ := fourH h9.1; have HF8 := Lib.hid h9.2.2; clear hr8 hg8 hat8 hlt8 h9))
              go_wp2
              go_roundw
              case measure => simp [intOf]; omega
              case rel => exact ⟨t + 1, by omega, by go_num, _, by rw [HS9.out]; exact HF8.out⟩
            · obtain rfl : t = nT := by omega
              rw [List.take_of_length_le (Nat.le_of_eq HnT.out)] at hI'
              have hnb : SN + m9.N ≤ 100000 := by omega
              have hwr : IntKind.i64.wrap (SN + m9.N) = SN + m9.N := IntWalk.i64_in _ (by omega)
              have HI2 := Lib.hid hI'
              obtain ⟨l4', u0, f0, u1, f1, u2, f2, u3, f3⟩ := fourH hI'.k4
              clear hI' c1
              go_upto_region 29 with fail
              refine wp_region_noPanic ?_
              refine wp_region_U 12 (fun w' => w'.cell? ⟨wr.heap.size, 0, none⟩ = some (.int .i64 SN) ∧ w'.cell? ⟨gL, j * 4, none⟩ = some (.int .i64 m9.N)) (by kernel_rfl) ⟨HI2.out.drew.k4.cell 0, (HCx.out _ HI2.out.drew.bel).2.1⟩ ?_
              change AtU _ _ _ _ _ _ 13 (Array.replicate 13 false) _ _
              refine AtU.take (i := 0) (v := ?_) rfl (by kernel_rfl) (by kernel_rfl) (fun _ _ _ h => h) (by rfl) ?_ ?_
              rotate_left 1
              · intro w9 hSw; (try dsimp only at hSw); go_simp; try with_reducible rfl
              try simp only [Act.put, List.setIfInBounds_toArray, List.set_cons_zero, List.set_cons_succ]
              refine AtU.take (i := 1) (v := ?_) rfl (by kernel_rfl) (by kernel_rfl) (fun _ _ _ h => h) (by rfl) ?_ ?_
              rotate_left 1
              · intro w9 hSw; (try dsimp only at hSw); go_simp; try with_reducible rfl
              try simp only [Act.put, List.setIfInBounds_toArray, List.set_cons_zero, List.set_cons_succ]
              refine AtU.take (i := 2) (v := ?_) rfl (by kernel_rfl) (by kernel_rfl) (fun _ _ _ h => h) (by rfl) ?_ ?_
              rotate_left 1
              · intro w9 hSw; (try dsimp only at hSw); go_simp; try with_reducible rfl
              try simp only [Act.put, List.setIfInBounds_toArray, List.set_cons_zero, List.set_cons_succ]
              refine AtU.take (i := 3) (v := ?_) rfl (by kernel_rfl) (by kernel_rfl) (fun _ _ _ h => h) (by rfl) ?_ ?_
              rotate_left 1
              · intro w9 hSw; (try dsimp only at hSw); go_simp; try with_reducible rfl
              try simp only [Act.put, List.setIfInBounds_toArray, List.set_cons_zero, List.set_cons_succ]
              refine AtU.take (i := 4) (v := ?_) rfl (by kernel_rfl) (by kernel_rfl) (fun _ _ _ h => h) (by rfl) ?_ ?_
              rotate_left 1
              · intro w9 hSw; (try dsimp only at hSw); go_simp; try with_reducible rfl
              try simp only [Act.put, List.setIfInBounds_toArray, List.set_cons_zero, List.set_cons_succ]
              refine AtU.take (i := 5) (v := ?_) rfl (by kernel_rfl) (by kernel_rfl) (fun _ _ _ h => h) (by rfl) ?_ ?_
              rotate_left 1
              · intro w9 hSw; (try dsimp only at hSw); go_simp; try with_reducible rfl
              try simp only [Act.put, List.setIfInBounds_toArray, List.set_cons_zero, List.set_cons_succ]
              refine AtU.take (i := 6) (v := ?_) rfl (by kernel_rfl) (by kernel_rfl) (fun _ _ _ h => h) (by rfl) ?_ ?_
              rotate_left 1
              · intro w9 hSw; (try dsimp only at hSw); go_simp; try with_reducible rfl
              try simp only [Act.put, List.setIfInBounds_toArray, List.set_cons_zero, List.set_cons_succ]
              refine AtU.take (i := 7) (v := ?_) rfl (by kernel_rfl) (by kernel_rfl) (fun _ _ _ h => h) (by rfl) ?_ ?_
              rotate_left 1
              · intro w9 hSw; (try dsimp only at hSw); go_simp; try with_reducible rfl
              try simp only [Act.put, List.setIfInBounds_toArray, List.set_cons_zero, List.set_cons_succ]
              refine AtU.take (i := 8) (v := ?_) rfl (by kernel_rfl) (by kernel_rfl) (fun _ _ _ h => h) (by rfl) ?_ ?_
              rotate_left 1
              · intro w9 hSw; (try dsimp only at hSw); go_simp; try with_reducible rfl
              try simp only [Act.put, List.setIfInBounds_toArray, List.set_cons_zero, List.set_cons_succ]
              refine AtU.take (i := 9) (v := ?_) rfl (by kernel_rfl) (by kernel_rfl) (fun _ _ _ h => h) (by rfl) ?_ ?_
              rotate_left 1
              · intro w9 hSw; (try dsimp only at hSw); go_simp; try with_reducible rfl
              try simp only [Act.put, List.setIfInBounds_toArray, List.set_cons_zero, List.set_cons_succ]
              refine AtU.take (i := 10) (v := ?_) rfl (by kernel_rfl) (by kernel_rfl) (fun _ _ _ h => h) (by rfl) ?_ ?_
              rotate_left 1
              · intro w9 hSw; (try dsimp only at hSw); go_simp; try with_reducible rfl
              try simp only [Act.put, List.setIfInBounds_toArray, List.set_cons_zero, List.set_cons_succ]
              refine AtU.take (i := 11) (v := ?_) rfl (by kernel_rfl) (by kernel_rfl) (fun _ _ _ h => h) (by rfl) ?_ ?_
              rotate_left 1
              · intro w9 hSw; (try dsimp only at hSw); go_simp; try with_reducible rfl
              try simp only [Act.put, List.setIfInBounds_toArray, List.set_cons_zero, List.set_cons_succ]
              refine AtU.last (i := 12) rfl (by kernel_rfl) (fun K hK => ?_)
              go_simp
              refine hK.out _ _ ?_
              clear hK K
              refine NoPanic.normal ?_
              clear u0 f0 u1 f1 u2 f2 u3 f3 c0' c1' c2' c3'
              have HI3 := Lib.hid (HI2.out.setN (N' := SN + m9.N)).drew
              try rw [hwr]
              generalize (wy.setCell ⟨wr.heap.size, 0, none⟩ (.int .i64 (SN + m9.N))).drew = W6 at *
              go_upto_region 30 with fail
              refine wp_region_noPanic ?_
              refine wp_region_U 9 (fun w' => w'.cell? ⟨wr.heap.size, 2, none⟩ = some vPa ∧ w'.cell? ⟨gL, j * 4 + 2, none⟩ = some (.slice aPx m9.P.length cPx)) (by kernel_rfl) ⟨HI3.out.drew.k4.cell 2, (HCx.out _ HI3.out.drew.bel).2.2.2.1⟩ ?_
              change AtU _ _ _ _ _ _ 10 (Array.replicate 10 false) _ _
              refine AtU.take (i := 0) (v := ?_) rfl (by kernel_rfl) (by kernel_rfl) (fun _ _ _ h => h) (by rfl) ?_ ?_
              rotate_left 1
              · intro w9 hSw; (try dsimp only at hSw); go_simp; try with_reducible rfl
              try simp only [Act.put, List.setIfInBounds_toArray, List.set_cons_zero, List.set_cons_succ]
              refine AtU.take (i := 1) (v := ?_) rfl (by kernel_rfl) (by kernel_rfl) (fun _ _ _ h => h) (by rfl) ?_ ?_
              rotate_left 1
              · intro w9 hSw; (try dsimp only at hSw); go_simp; try with_reducible rfl
              try simp only [Act.put, List.setIfInBounds_toArray, List.set_cons_zero, List.set_cons_succ]
              refine AtU.take (i := 2) (v := ?_) rfl (by kernel_rfl) (by kernel_rfl) (fun _ _ _ h => h) (by rfl) ?_ ?_
              rotate_left 1
              · intro w9 hSw; (try dsimp only at hSw); go_simp; try with_reducible rfl
              try simp only [Act.put, List.setIfInBounds_toArray, List.set_cons_zero, List.set_cons_succ]
              refine AtU.take (i := 3) (v := ?_) rfl (by kernel_rfl) (by kernel_rfl) (fun _ _ _ h => h) (by rfl) ?_ ?_
              rotate_left 1
              · intro w9 hSw; (try dsimp only at hSw); go_simp; try with_reducible rfl
              try simp only [Act.put, List.setIfInBounds_toArray, List.set_cons_zero, List.set_cons_succ]
              refine AtU.take (i := 4) (v := ?_) rfl (by kernel_rfl) (by kernel_rfl) (fun _ _ _ h => h) (by rfl) ?_ ?_
              rotate_left 1
              · intro w9 hSw; (try dsimp only at hSw); go_simp; try with_reducible rfl
              try simp only [Act.put, List.setIfInBounds_toArray, List.set_cons_zero, List.set_cons_succ]
              refine AtU.take (i := 5) (v := ?_) rfl (by kernel_rfl) (by kernel_rfl) (fun _ _ _ h => h) (by rfl) ?_ ?_
              rotate_left 1
              · intro w9 hSw; (try dsimp only at hSw); go_simp; try with_reducible rfl
              try simp only [Act.put, List.setIfInBounds_toArray, List.set_cons_zero, List.set_cons_succ]
              refine AtU.take (i := 6) (v := ?_) rfl (by kernel_rfl) (by kernel_rfl) (fun _ _ _ h => h) (by rfl) ?_ ?_
              rotate_left 1
              · intro w9 hSw; (try dsimp only at hSw); go_simp; try with_reducible rfl
              try simp only [Act.put, List.setIfInBounds_toArray, List.set_cons_zero, List.set_cons_succ]
              refine AtU.step (i := 7) rfl (by kernel_rfl) (fun K hK => ?_)
              refine step_append_any W6.drew (by rfl) (.tmp 150) (.tmp 155) 63 (by rfl) wr.heap.size 111 i4 _ 3 24 Tryz.underlying63 hj4 b40 b41 b42 (by rfl) (by decide) vPa PP.length (ws3 PP) (by rfl) HI3.out.drew.rP w1.heap.size (.slice aPx m9.P.length cPx) m9.P.length (ws3 m9.P) (by rfl) (HOx.out _ HI3.out.drew.bel).2.2.1 (ws3_one _) (by unfold maxLen; omega) (by omega) HI3.out.drew.bel.size ?_
              intro v8 W8 hr8 hg8 hat8
              have h9 := HI3.out.drew.appP hg8 (P4 := PP ++ m9.P) (v4 := v8) (by rw [ws3_app, List.length_append]; exact hr8)
              obtain ⟨v9, hv9⟩ : ∃ v9, v8 = v9 := ⟨_, rfl⟩
              subst hv9
              obtain ⟨lx8, z0, g0, z1, g1, z2, g2, z3, g3⟩ := fourH h9.1
              obtain ⟨a8, n8, e8⟩ := ownsRow_slice hr8
              have HI4 := Lib.hid h9.2.2
              refine hK.out _ _ ⟨h9.1.cell 2, (HCx.out _ h9.2.1).2.2.2.1⟩ ?_
              clear hK K
              try simp only [Act.put, List.setIfInBounds_toArray, List.set_cons_zero, List.set_cons_succ]
              subst e8
              clear hr8 hg8 hat8 h9
              refine AtU.take (i := 8) (v := ?_) rfl (by kernel_rfl) (by kernel_rfl) (fun _ _ _ h => h) (by rfl) ?_ ?_
              rotate_left 1
              · intro w9 hSw; (try dsimp only at hSw); go_simp; try with_reducible rfl
              try simp only [Act.put, List.setIfInBounds_toArray, List.set_cons_zero, List.set_cons_succ]
              refine AtU.last (i := 9) rfl (by kernel_rfl) (fun K hK => ?_)
              go_simp
              refine hK.out _ _ ?_
              clear hK K
              refine NoPanic.normal ?_
              clear z0 g0 z1 g1 z2 g2 z3 g3 lx8
              generalize W8.setCell ⟨wr.heap.size, 2, none⟩ _ = W7 at *
              clear hwr
              go_upto_region 31 with fail
              refine wp_region_noPanic ?_
              refine wp_region_U 9 (fun w' => w'.cell? ⟨wr.heap.size, 3, none⟩ = some vKa ∧ w'.cell? ⟨gL, j * 4 + 3, none⟩ = some (.slice aKx m9.K.length cKx)) (by kernel_rfl) ⟨HI4.out.drew.k4.cell 3, (HCx.out _ HI4.out.drew.bel).2.2.2.2⟩ ?_
              change AtU _ _ _ _ _ _ 10 (Array.replicate 10 false) _ _
              refine AtU.take (i := 0) (v := ?_) rfl (by kernel_rfl) (by kernel_rfl) (fun _ _ _ h => h) (by rfl) ?_ ?_
              rotate_left 1
              · intro w9 hSw; (try dsimp only at hSw); go_simp; try with_reducible rfl
              try simp only [Act.put, List.setIfInBounds_toArray, List.set_cons_zero, List.set_cons_succ]
              refine AtU.take (i := 1) (v := ?_) rfl (by kernel_rfl) (by kernel_rfl) (fun _ _ _ h => h) (by rfl) ?_ ?_
              rotate_left 1
              · intro w9 hSw; (try dsimp only at hSw); go_simp; try with_reducible rfl
              try simp only [Act.put, List.setIfInBounds_toArray, List.set_cons_zero, List.set_cons_succ]
              refine AtU.take (i := 2) (v := ?_) rfl (by kernel_rfl) (by kernel_rfl) (fun _ _ _ h => h) (by rfl) ?_ ?_
              rotate_left 1
              · intro w9 hSw; (try dsimp only at hSw); go_simp; try with_reducible rfl
              try simp only [Act.put, List.setIfInBounds_toArray, List.set_cons_zero, List.set_cons_succ]
              refine AtU.take (i := 3) (v := ?_) rfl (by kernel_rfl) (by kernel_rfl) (fun _ _ _ h => h) (by rfl) ?_ ?_
              rotate_left 1
              · intro w9 hSw; (try dsimp only at hSw); go_simp; try with_reducible rfl
              try simp only [Act.put, List.setIfInBounds_toArray, List.set_cons_zero, List.set_cons_succ]
              refine AtU.take (i := 4) (v := ?_) rfl (by kernel_rfl) (by kernel_rfl) (fun _ _ _ h => h) (by rfl) ?_ ?_
              rotate_left 1
              · intro w9 hSw; (try dsimp only at hSw); go_simp; try with_reducible rfl
              try simp only [Act.put, List.setIfInBounds_toArray, List.set_cons_zero, List.set_cons_succ]
              refine AtU.take (i := 5) (v := ?_) rfl (by kernel_rfl) (by kernel_rfl) (fun _ _ _ h => h) (by rfl) ?_ ?_
              rotate_left 1
              · intro w9 hSw; (try dsimp only at hSw); go_simp; try with_reducible rfl
              try simp only [Act.put, List.setIfInBounds_toArray, List.set_cons_zero, List.set_cons_succ]
              refine AtU.take (i := 6) (v := ?_) rfl (by kernel_rfl) (by kernel_rfl) (fun _ _ _ h => h) (by rfl) ?_ ?_
              rotate_left 1
              · intro w9 hSw; (try dsimp only at hSw); go_simp; try with_reducible rfl
              try simp only [Act.put, List.setIfInBounds_toArray, List.set_cons_zero, List.set_cons_succ]
              refine AtU.step (i := 7) rfl (by kernel_rfl) (fun K hK => ?_)
              refine step_append_any W7.drew (by rfl) (.tmp 159) (.tmp 164) 28 (by rfl) wr.heap.size 3 i2 _ 1 8 Tryz.underlying28 hj2 b20 b21 b22 (by rfl) (by decide) vKa KK.length (intsV KK) (by rfl) HI4.out.drew.rK w1.heap.size (.slice aKx m9.K.length cKx) m9.K.length (intsV m9.K) (by rfl) (HOx.out _ HI4.out.drew.bel).2.2.2 (intsV_one9 _) (by unfold maxLen; omega) (by omega) HI4.out.drew.bel.size ?_
              intro v10 W10 hr8 hg8 hat8
              have h9 := HI4.out.drew.appK hg8 (K4 := KK ++ m9.K) (v4 := v10) (by rw [intsV_app9, List.length_append]; exact hr8)
              obtain ⟨v11, hv11⟩ : ∃ v11, v10 = v11 := ⟨_, rfl⟩
              subst hv11
              obtain ⟨lx8, z0, g0, z1, g1, z2, g2, z3, g3⟩ := fourH h9.1
              obtain ⟨a10, n10, e10⟩ := ownsRow_slice hr8
              have HI5 := Lib.hid h9.2.2
              refine hK.out _ _ ⟨h9.1.cell 3, (HCx.out _ h9.2.1).2.2.2.2⟩ ?_
              clear hK K
              try simp only [Act.put, List.setIfInBounds_toArray, List.set_cons_zero, List.set_cons_succ]
              subst e10
              clear hr8 hg8 hat8 h9
              refine AtU.take (i := 8) (v := ?_) rfl (by kernel_rfl) (by kernel_rfl) (fun _ _ _ h => h) (by rfl) ?_ ?_
              rotate_left 1
              · intro w9 hSw; (try dsimp only at hSw); go_simp; try with_reducible rfl
              try simp only [Act.put, List.setIfInBounds_toArray, List.set_cons_zero, List.set_cons_succ]
              refine AtU.last (i := 9) rfl (by kernel_rfl) (fun K hK => ?_)
              go_simp
              refine hK.out _ _ ?_
              clear hK K
              refine NoPanic.normal ?_
              clear z0 g0 z1 g1 z2 g2 z3 g3 lx8
              go_wp2
              go_roundw
              case measure => simp [intOf]; omega
              case rel => exact ⟨j + 1, by omega, by go_num, _, _, _, by rw [HS1.out, HJ.out, HP1.out, HPP.out, HK1'.out, HKK.out]; exact HI5.out⟩
        · obtain rfl : j = k := by omega
          rw [List.take_of_length_le (Nat.le_of_eq Hlen.out), List.take_of_length_le (by unfold soupsM; rw [List.length_map]; exact Nat.le_of_eq Hlen.out)] at hI
          obtain ⟨aS9, cS9, rfl⟩ := ownsRow_slice hI.rT
          obtain ⟨aP9, cP9, rfl⟩ := ownsRow_slice hI.rP
          obtain ⟨aK9, cK9, rfl⟩ := ownsRow_slice hI.rK
          obtain ⟨nP9, hnP9⟩ : ∃ n, (l.flatMap (·.P)).length = n := ⟨_, rfl⟩
          obtain ⟨nK9, hnK9⟩ : ∃ n, (l.flatMap (·.K)).length = n := ⟨_, rfl⟩
          rw [hnP9, hnK9] at hI
          have HnP9 := Lib.hid hnP9
          have HnK9 := Lib.hid hnK9
          obtain ⟨l4, u0, v0, u1, v1, u2, v2, u3, v3⟩ := fourH hI.k4
          have rP9 : wx.ownsRow wr.heap.size 111 3 (.slice aP9 nP9 cP9) nP9 (ws3 (l.flatMap (·.P))) := by have h9 := hI.rP; rw [hnP9] at h9; exact h9
          have rK9 : wx.ownsRow wr.heap.size 3 1 (.slice aK9 nK9 cK9) nK9 (intsV (l.flatMap (·.K))) := by have h9 := hI.rK; rw [hnK9] at h9; exact h9
          have hk2 := HKr2.out.below hI.bel HKr2.out.lt
          obtain ⟨l5, z0, f0, z1, f1, z2, f2, z3, f3⟩ := fourH hk2
          have HFn := Lib.hid (fin_body hk2 hI.rT rP9 rK9 (HBw.out.trans (hI.bel.mono hzw)) (Nat.le_succ _) (.int .i64 (joinM (soupsM l)).1) (.slice aS9 (joinM (soupsM l)).2.length cS9) (.slice aP9 nP9 cP9) (.slice aK9 nK9 cK9))
          have hne9 : wr.heap.size ≠ w.heap.size + 1 := by have := HKr2.out.lt; omega
          clear hI hk2 hnP9 hnK9 rP9 rK9
          go_wp2
          obtain ⟨hb2, hr2, hp2, ho2, hbel⟩ := HFn.out
          obtain ⟨-, p0, p1, p2, p3⟩ := fourF hb2
          refine bodyPost_ret (v := .agg #[.int .i64 (joinM (soupsM l)).1, .slice aS9 (joinM (soupsM l)).2.length cS9, .slice aP9 nP9 cP9, .slice aK9 nK9 cK9]) (by simp [results, Tryz.results32, go_sem, p0, p1, p2, p3]) rfl ?_
          exact ⟨out, j, _, _, _, Hsh.out, Hm.out, by rw [HSl.out], by rw [HSl.out]; exact own_lower hr2 hzw, by rw [HSl.out, HnP9.out]; exact own_lower hp2 hzw, by rw [HSl.out, HnK9.out]; exact own_lower ho2 hzw, hbel⟩
end Go.Proofs.YtghlnknncahkgaaGreat
namespace Go.Proofs.YtghlnknncahkgaaGreat
open Go.RowKit Go.Maps

set_option maxRecDepth 100000 in
theorem rows46_same (v1 v2 : Value) (xs : List Int) (w : World) (h1 : IntsRd w v1 xs) (h2 : IntsRd w v2 xs) (hl : xs.length ≤ 100000) : Calls Tryz.prog 16 #[v1, v2] w fun e w' => e = .returned (.bool true) ∧ Below w.heap.size w w' := by
  obtain ⟨a1, c1, rfl, l1, r1⟩ := h1
  obtain ⟨a2, c2, rfl, l2, r2⟩ := h2
  have R1 := Lib.hid r1
  have R2 := Lib.hid r2
  obtain ⟨n, hn⟩ : ∃ n, xs.length = n := ⟨_, rfl⟩
  rw [hn] at l1 l2 hl ⊢
  have Hn := Lib.hid hn
  clear r1 r2 hn
  go_enter Tryz.func16, Tryz.ntmps16
  go_wp2
  go_loopw [13] (fun i W => ∃ k : Nat, k ≤ n ∧ i = .int .i64 k ∧ ∃ q, W = w.drewN q) (fun i _ => n - (intOf i).toNat)
  case atStart => exact ⟨0, Nat.zero_le _, rfl, 0, rfl⟩
  case round =>
    obtain ⟨k, hk, rfl, q0, rfl⟩ := hrel
    by_cases hlt : k < n
    · obtain ⟨x, hx⟩ : ∃ x, xs[k]? = some x := ⟨xs[k]'(by rw [Hn.out]; exact hlt), List.getElem?_eq_getElem _⟩
      obtain ⟨b1, o1, rfl, hb1, s1⟩ := R1.out k x hx
      obtain ⟨b2, o2, rfl, hb2, s2⟩ := R2.out k x hx
      have hki : (k : Int) < (n : Int) := by omega
      clear hx
      go_upto_region 6 with fail
      go_quiet (fail)
      go_wp2
      go_roundw
      case measure => simp [intOf]; omega
      case rel => exact ⟨k + 1, by omega, by go_num, q0 + nq, by first | rfl | rw [World.drewN_drewN]⟩
    · obtain rfl : k = n := by omega
      go_wp2
      go_ret
      exact ⟨rfl, ⟨rfl, rfl, rfl, Nat.le_refl _, fun _ _ => rfl⟩⟩
end Go.Proofs.YtghlnknncahkgaaGreat
namespace Go.Proofs.YtghlnknncahkgaaGreat
open Go.RowKit Go.Maps

theorem ptEq9 (a b c a' b' c' : Int) (w : World) :
    (Op.equalIn 10000 111 (.agg #[.int .i64 a, .int .i64 b, .int .i64 c]) (.agg #[.int .i64 a', .int .i64 b', .int .i64 c'])).run Tryz.prog w = .ok (decide ((a, b, c) = (a', b', c'))) w := by
  have e : decide ((a, b, c) = (a', b', c')) = (a == a' && (b == b' && c == c')) := by
    simp only [Prod.mk.injEq]
    by_cases h1 : a = a' <;> by_cases h2 : b = b' <;> by_cases h3 : c = c' <;> simp [h1, h2, h3]
  rw [e]
  show (Op.equalIn (9998 + 2) _ _ _).run _ _ = _
  rw [Op.equalIn]
  simp [run_underlying Tryz.underlying111, List.range'_succ, part, go_sem]
  repeat' split
  all_goals simp_all
set_option maxRecDepth 100000 in
set_option maxHeartbeats 4000000 in
theorem alike_same (N : Int) (v1 v2 p1 p2 k1 k2 : Value) (T P : List Tr) (K : List Int) (w : World) (h1 : TrisRd w v1 T) (h2 : TrisRd w v2 T) (hp1 : TrisRd w p1 P) (hp2 : TrisRd w p2 P) (hk1 : IntsRd w k1 K) (hk2 : IntsRd w k2 K)
    (l1 : T.length ≤ 100000) (lP : P.length ≤ 100000) (lK : K.length ≤ 100000) :
    Calls Tryz.prog 31 #[.agg #[.int .i64 N, v1, p1, k1], .agg #[.int .i64 N, v2, p2, k2]] w fun e w' => e = .returned (.bool true) ∧ Below w.heap.size w w' := by
  have HRw := Lib.hid (fun (W : World) (hW : Below w.heap.size w W) => rows46_same k1 k2 K W (hk1.below hW) (hk2.below hW) lK)
  have HSm := Lib.hid (fun (W : World) (hW : Below w.heap.size w W) => (same_any N N v1 v2 T T W (h1.below hW) (h2.below hW) l1 l1).mono (R' := fun e w' => e = .returned (.bool true) ∧ Below W.heap.size W w') (by
    rintro e w' ⟨he, hb⟩
    exact ⟨by simpa using he, hb⟩))
  obtain ⟨a1, c1, rfl, g1, -, -⟩ := h1
  obtain ⟨a2, c2, rfl, g2, -, -⟩ := h2
  have HP1 := Lib.hid (fun (W : World) (hW : Below w.heap.size w W) => hp1.below hW)
  have HP2 := Lib.hid (fun (W : World) (hW : Below w.heap.size w W) => hp2.below hW)
  obtain ⟨d1, e1, rfl, gp1, -, -⟩ := hp1
  obtain ⟨d2, e2, rfl, gp2, -, -⟩ := hp2
  obtain ⟨f1, q1, rfl, gk1, -⟩ := hk1
  obtain ⟨f2, q2, rfl, gk2, -⟩ := hk2
  obtain ⟨nT, hnT⟩ : ∃ n, T.length = n := ⟨_, rfl⟩
  obtain ⟨nP, hnP⟩ : ∃ n, P.length = n := ⟨_, rfl⟩
  obtain ⟨nK, hnK⟩ : ∃ n, K.length = n := ⟨_, rfl⟩
  rw [hnT] at HSm l1
  rw [hnP] at HP1 HP2 lP
  rw [hnK] at HRw
  rw [hnT, hnP, hnK]
  have HnP := Lib.hid hnP
  have hB : Below w.heap.size w ((w.alloc (.cells #[.int .i64 N, .slice a1 nT c1, .slice d1 nP e1, .slice f1 nK q1] 65)).alloc (.cells #[.int .i64 N, .slice a2 nT c2, .slice d2 nP e2, .slice f2 nK q2] 65)) := ((Below.refl _ _).alloc (Nat.le_refl _) _).alloc (by simp) _
  have b1 := (Blk.new w 65 #[.int .i64 N, .slice a1 nT c1, .slice d1 nP e1, .slice f1 nK q1]).alloc (.cells #[.int .i64 N, .slice a2 nT c2, .slice d2 nP e2, .slice f2 nK q2] 65)
  have b2 : Blk ((w.alloc (.cells #[.int .i64 N, .slice a1 nT c1, .slice d1 nP e1, .slice f1 nK q1] 65)).alloc (.cells #[.int .i64 N, .slice a2 nT c2, .slice d2 nP e2, .slice f2 nK q2] 65)) (w.heap.size + 1) 65 #[.int .i64 N, .slice a2 nT c2, .slice d2 nP e2, .slice f2 nK q2] := blk_new_at (by simp)
  obtain ⟨l1', x0, x1, x2, x3⟩ := fourF b1
  obtain ⟨l2', y0, y1, y2, y3⟩ := fourF b2
  have HB := Lib.hid hB
  have H1 := Lib.hid b1
  have H2 := Lib.hid b2
  have HS0 := Lib.hid (HSm.out _ hB)
  clear hnT hnP hnK b1 b2 hB
  go_enter Tryz.func31, Tryz.ntmps31
  have hne : ((nP : Int) != (nP : Int)) = false := by simp
  clear x0 x1 x2 x3 y0 y1 y2 y3
  obtain ⟨-, x0, x1, x2, x3⟩ := fourF H1.out
  obtain ⟨-, y0, y1, y2, y3⟩ := fourF H2.out
  go_wp2_with (go_at_call 15; go_loud (with_reducible refine HS0.out.mono ?_); rintro e w1 ⟨rfl, hb1⟩; have h1 := H1.out.below hb1 l1'; have h2 := H2.out.below hb1 l2'; clear x0 x1 x2 x3 y0 y1 y2 y3; obtain ⟨l1, x0, x1, x2, x3⟩ := fourF h1; obtain ⟨l2, y0, y1, y2, y3⟩ := fourF h2)
  have HB1 := Lib.hid (HB.out.trans (hb1.mono HB.out.size))
  have H1a := Lib.hid h1
  have H2a := Lib.hid h2
  clear h1 h2 hb1
  clear x0 x1 x2 x3 y0 y1 y2 y3
  go_loopw [24] (fun i wx => ∃ t : Nat, i = .int .i64 (t : Int) ∧ t ≤ nP ∧ Below w1.heap.size w1 wx) (fun i _ => nP - (intOf i).toNat)
  case atStart => exact ⟨0, rfl, Nat.zero_le _, Below.refl _ _⟩
  case round =>
    rename World => wx
    obtain ⟨t, rfl, htl, hbx⟩ := hrel
    obtain ⟨l1x, x0, x1, x2, x3⟩ := fourF (H1a.out.below hbx l1)
    obtain ⟨l2x, y0, y1, y2, y3⟩ := fourF (H2a.out.below hbx l2)
    by_cases hlt : t < nP
    · have hki : (t : Int) < (nP : Int) := by omega
      have htP : t < P.length := by rw [HnP.out]; exact hlt
      obtain ⟨⟨px, py, pz⟩, hp⟩ : ∃ t', P[t]? = some t' := ⟨P[t], List.getElem?_eq_getElem htP⟩
      have hr1 := HP1.out wx (HB1.out.trans (hbx.mono HB1.out.size))
      obtain ⟨a', c', e', -, -, hr1⟩ := hr1
      rw [HnP.out] at e'
      cases e'
      obtain ⟨b, o, rfl, hb, s0, s1, s2⟩ := hr1 t px py pz hp
      have hr2 := HP2.out wx (HB1.out.trans (hbx.mono HB1.out.size))
      obtain ⟨a', c', e', -, -, hr2⟩ := hr2
      rw [HnP.out] at e'
      cases e'
      obtain ⟨b', o', rfl, hb', r0, r1, r2⟩ := hr2 t px py pz hp
      have HBX := Lib.hid hbx
      have qe := fun W : World => ptEq9 px py pz px py pz W
      rw [decide_eq_true rfl] at qe
      clear hr1 hr2 hbx hp htP hlt
      go_upto_region 6 with fail
      go_region_held3 (fun w' => w'.cell? ⟨w.heap.size, 2, none⟩ = some (.slice (some ⟨b, o, none⟩) nP e1) ∧ w'.cell? ⟨w.heap.size + 1, 2, none⟩ = some (.slice (some ⟨b', o', none⟩) nP e2) ∧ w'.cell? ⟨b, o + t * 3, none⟩ = some (.int .i64 px) ∧ w'.cell? ⟨b, o + t * 3 + 1, none⟩ = some (.int .i64 py) ∧ w'.cell? ⟨b, o + t * 3 + 2, none⟩ = some (.int .i64 pz) ∧ w'.cell? ⟨b', o' + t * 3, none⟩ = some (.int .i64 px) ∧ w'.cell? ⟨b', o' + t * 3 + 1, none⟩ = some (.int .i64 py) ∧ w'.cell? ⟨b', o' + t * 3 + 2, none⟩ = some (.int .i64 pz)) (go_keep) (fail)
      go_wp2
      go_roundw
      case measure => simp [intOf]; omega
      case rel => exact ⟨t + 1, by go_num, by omega, HBX.out.drew⟩
    · obtain rfl : t = nP := by omega
      have HBX := Lib.hid hbx
      have HR9 := Lib.hid (HRw.out wx (HB1.out.trans (hbx.mono HB1.out.size)))
      have hd9 : decide ((t : Int) < (t : Int)) = false := by simp
      clear hbx hlt
      go_wp2_with (go_at_call 16; go_loud (with_reducible refine HR9.out.mono ?_); rintro e w8 ⟨rfl, hb8⟩)
      go_ret
      exact ⟨rfl, HB1.out.trans ((HBX.out.trans (hb8.mono HBX.out.size)).mono HB1.out.size)⟩
end Go.Proofs.YtghlnknncahkgaaGreat
namespace Go.Proofs.YtghlnknncahkgaaGreat
open Go.RowKit Go.Maps

def adjB (T : List Tr) (v : Int) (i k : Nat) : Bool := match T[i]?, T[k]? with
  | some a, some b => [a.1, a.2.1, a.2.2].any fun x => decide (x ≠ v) && (decide (x = b.1) || decide (x = b.2.1) || decide (x = b.2.2))
  | _, _ => false
theorem adjB_ok {T : List Tr} {v : Int} {i k : Nat} (h : adjB T v i k = true) : adjV T v i k := by
  unfold adjB at h
  split at h
  · rename_i a b ha hb
    rw [List.any_eq_true] at h
    obtain ⟨x, hx, h⟩ := h
    simp only [Bool.and_eq_true, Bool.or_eq_true, decide_eq_true_eq] at h
    refine ⟨a, b, x, ha, hb, h.1, ?_, ?_⟩
    · simp only [List.mem_cons, List.not_mem_nil, or_false] at hx
      unfold hasV
      rcases hx with rfl | rfl | rfl
      · exact .inl rfl
      · exact .inr (.inl rfl)
      · exact .inr (.inr rfl)
    · unfold hasV
      rcases h.2 with (h2 | h2) | h2
      · exact .inl h2
      · exact .inr (.inl h2)
      · exact .inr (.inr h2)
  · cases h
theorem connB {T : List Tr} {u : Int} (h : ((atV T u).all fun k => adjB T u ((atV T u).headD 0) k) = true) : ConnV T u (atV T u) := by
  intro S h0 hs k hk
  cases hl : atV T u with
  | nil => rw [hl] at hk; cases hk
  | cons a r =>
    rw [List.all_eq_true] at h
    have h1 := h k hk
    rw [hl] at h0 h1
    exact hs a (by rw [hl]; exact List.mem_cons_self ..) k hk (h0 a rfl) (adjB_ok h1)
def T46 : List Tr := [(0, 1, 2), (0, 2, 3), (0, 3, 1), (1, 3, 2)]
def W46 : List Tr := [(0, 1, 2), (3, 2, 1), (3, 0, 2), (3, 1, 0)]
theorem keysT46 : T46.flatMap key3 = [(0, 1, 2), (0, 2, 3), (0, 1, 3), (1, 2, 3)] := by
  simp [T46, key3, sort3, sortL, List.mergeSort, List.MergeSort.Internal.splitInTwo]
theorem keysW46 : W46.flatMap key3 = [(0, 1, 2), (1, 2, 3), (0, 2, 3), (0, 1, 3)] := by
  simp [W46, key3, sort3, sortL, List.mergeSort, List.MergeSort.Internal.splitInTwo]
theorem surfT46 : Surf 4 T46 where
  n0 := by decide
  n1 := by decide
  len := by decide
  inr := by unfold in3 inR; decide
  simple := by unfold simple3; decide
  twice := by decide
  mirrored := by rw [keysT46]; decide
  lonely := by
    intro u hu
    have h : u = 0 ∨ u = 1 ∨ u = 2 ∨ u = 3 := by unfold inR at hu; omega
    rcases h with rfl | rfl | rfl | rfl <;> decide
  pinch := by
    intro u hu
    have h : u = 0 ∨ u = 1 ∨ u = 2 ∨ u = 3 := by unfold inR at hu; omega
    rcases h with rfl | rfl | rfl | rfl <;> exact connB (by decide)
theorem surfW46 : Surf 4 W46 where
  n0 := by decide
  n1 := by decide
  len := by decide
  inr := by unfold in3 inR; decide
  simple := by unfold simple3; decide
  twice := by decide
  mirrored := by rw [keysW46]; decide
  lonely := by
    intro u hu
    have h : u = 0 ∨ u = 1 ∨ u = 2 ∨ u = 3 := by unfold inR at hu; omega
    rcases h with rfl | rfl | rfl | rfl <;> decide
  pinch := by
    intro u hu
    have h : u = 0 ∨ u = 1 ∨ u = 2 ∨ u = 3 := by unfold inR at hu; omega
    rcases h with rfl | rfl | rfl | rfl <;> exact connB (by decide)
/-- Four triangles, each across the first one. -/
theorem shl_four {T : List Tr} {out : List Int} (h : Shl T out) (hl : T.length = 4) {a b c : Nat} (h1 : oppI T 0 = (a : Int)) (h2 : oppI T 1 = (b : Int)) (h3 : oppI T 2 = (c : Int)) (ha : a / 3 = 1 ∨ b / 3 = 1 ∨ c / 3 = 1) (hb : a / 3 = 2 ∨ b / 3 = 2 ∨ c / 3 = 2) (hc : a / 3 = 3 ∨ b / 3 = 3 ∨ c / 3 = 3) : out = [0, 0, 0, 0] := by
  have e1 := h.adj 0 a (by omega) h1
  have e2 := h.adj 1 b (by omega) h2
  have e3 := h.adj 2 c (by omega) h3
  have e0 : at_ out 0 = 0 := by
    rcases h.new 0 (by omega) with ⟨i, hi, -⟩ | ⟨-, h0 | ⟨i, hi, -⟩⟩
    · omega
    · exact h0
    · omega
  have k1 : at_ out 1 = 0 := by
    rcases ha with e | e | e
    · rw [e] at e1; exact e1.trans e0
    · rw [e] at e2; exact e2.trans e0
    · rw [e] at e3; exact e3.trans e0
  have k2 : at_ out 2 = 0 := by
    rcases hb with e | e | e
    · rw [e] at e1; exact e1.trans e0
    · rw [e] at e2; exact e2.trans e0
    · rw [e] at e3; exact e3.trans e0
  have k3 : at_ out 3 = 0 := by
    rcases hc with e | e | e
    · rw [e] at e1; exact e1.trans e0
    · rw [e] at e2; exact e2.trans e0
    · rw [e] at e3; exact e3.trans e0
  have hlo := h.len
  rw [hl] at hlo
  match out, hlo with
  | [w, x, y, z], _ =>
    simp only [at_, List.getD] at e0 k1 k2 k3
    simp at e0 k1 k2 k3
    rw [e0, k1, k2, k3]
theorem shlT46 {out : List Int} (h : Shl T46 out) : out = [0, 0, 0, 0] := shl_four h rfl (a := 10) (b := 5) (c := 7) (by decide) (by decide) (by decide) (by decide) (by decide) (by decide)
theorem rtT46 : rtL T46 4 = [4, 8, 1, 9] := by decide
theorem rnT46 : rtN T46 4 = ([2, 3, 0, 1], W46) := by decide
theorem cnt46 {m : Nat} (h : (m : Int) = cntL [0, 0, 0, 0]) : m = 1 := by
  have : cntL [0, 0, 0, 0] = 1 := by decide
  omega
theorem frmT46 : frmS T46 [0, 0, 0, 0] 1 = (4, W46) := by decide
theorem frmW46 : frmS W46 [0, 0, 0, 0] 1 = (4, W46) := by decide
theorem formT46 {S : Int × List Tr} {O : List Int} (h : FormIs T46 S O) : S = (4, W46) := by
  obtain ⟨out, m, h1, h2, rfl, -⟩ := h
  rw [shlT46 h1] at h2 ⊢
  rw [cnt46 h2, frmT46]
theorem shl_make {T : List Tr} (hl : T.length = 4) (hr : ∀ j, j < 4 → Reach T 0 j) : Shl T [0, 0, 0, 0] := by
  have hat : ∀ j, j < 4 → at_ [0, 0, 0, 0] j = 0 := by
    intro j hj
    rcases (by omega : j = 0 ∨ j = 1 ∨ j = 2 ∨ j = 3) with rfl | rfl | rfl | rfl <;> rfl
  refine ⟨by rw [hl]; rfl, fun j hj => by rw [hat j (by omega)]; exact Int.le_refl _, fun c o hc ho => ?_, fun j hj => ?_⟩
  · have := (opp_some hc ho).1
    rw [hat _ (by omega), hat _ (by omega)]
  · by_cases h0 : j = 0
    · subst h0
      exact .inr ⟨fun i hi => absurd hi (Nat.not_lt_zero _), .inl rfl⟩
    · exact .inl ⟨0, by omega, by rw [hat 0 (by decide), hat j (by omega)], hr j (by omega)⟩
theorem reach_four {T : List Tr} (hl : T.length = 4) {a b c : Nat} (h1 : oppI T 0 = (a : Int)) (h2 : oppI T 1 = (b : Int)) (h3 : oppI T 2 = (c : Int)) (ha : a / 3 = 1 ∨ b / 3 = 1 ∨ c / 3 = 1) (hb : a / 3 = 2 ∨ b / 3 = 2 ∨ c / 3 = 2) (hc : a / 3 = 3 ∨ b / 3 = 3 ∨ c / 3 = 3) : ∀ j, j < 4 → Reach T 0 j := by
  have e1 : Reach T 0 (a / 3) := (Reach.refl T 0).step (c := 0) (by omega) h1
  have e2 : Reach T 0 (b / 3) := (Reach.refl T 0).step (c := 1) (by omega) h2
  have e3 : Reach T 0 (c / 3) := (Reach.refl T 0).step (c := 2) (by omega) h3
  intro j hj
  rcases (by omega : j = 0 ∨ j = 1 ∨ j = 2 ∨ j = 3) with rfl | rfl | rfl | rfl
  · exact Reach.refl T 0
  · rcases ha with e | e | e <;> rw [← e] <;> assumption
  · rcases hb with e | e | e <;> rw [← e] <;> assumption
  · rcases hc with e | e | e <;> rw [← e] <;> assumption
theorem formeq46 : FormEq 4 4 T46 W46 :=
  ⟨surfT46, surfW46, (4, W46), _, _,
    ⟨[0, 0, 0, 0], 1, shl_make rfl (reach_four rfl (a := 10) (b := 5) (c := 7) (by decide) (by decide) (by decide) (by decide) (by decide) (by decide)), by decide, frmT46.symm, rfl⟩,
    ⟨[0, 0, 0, 0], 1, shl_make rfl (reach_four rfl (a := 3) (b := 6) (c := 9) (by decide) (by decide) (by decide) (by decide) (by decide) (by decide)), by decide, frmW46.symm, rfl⟩⟩
theorem tris_blk {w : World} {g : Nat} {T : List Tr} (h : Blk w g 72 (ws3 T).toArray) (hT : T.length ≤ maxLen) : TrisRd w (.slice (some ⟨g, 0, none⟩) T.length T.length) T :=
  TrisRd.of_row (base := 0) ⟨ws3_len T, .inr ⟨g, T.length, (ws3 T).toArray, rfl, Nat.zero_le _, h, Nat.le_refl _, hT, by simp [ws3_len], by rw [← ws3_len]; simp⟩⟩
set_option maxRecDepth 100000 in
set_option maxHeartbeats 4000000 in
theorem awake46_any (w : World) : Calls Tryz.prog 11 #[] w fun e w' => e = .returned (.bool true) ∧ Below w.heap.size w w' := by
  have HNew := Lib.hid (fun (W : World) (v : Value) (hv : TrisRd W v T46) => (new_any 4 v T46 W hv (by decide)).mono (R' := fun e w' => ∃ g, e = .returned (.tuple #[.pointer (some ⟨g, 0, none⟩), .agg #[.int .i64 0, .int .i64 0, .int .i64 0]]) ∧ Tab w' g 4 T46 ∧ Below W.heap.size W w') (by
    rintro e w' ⟨⟨-, g, he, ht, -⟩ | ⟨hn, -⟩, hb⟩
    · exact ⟨g, he, ht, hb⟩
    · exact absurd surfT46 hn))
  have HFm := Lib.hid (fun (W : World) (v : Value) (hv : TrisRd W v T46) => (cform_two 4 v T46 W hv (by decide) (by decide)).mono (R' := fun e w' => ∃ aT cT aO nO cO, e = .returned (.tuple #[.agg #[.int .i64 4, .slice aT 4 cT], .slice aO nO cO, .int .i64 0]) ∧ TrisRd w' (.slice aT 4 cT) W46 ∧ Below W.heap.size W w') (by
    rintro e w' ⟨S, O, aT, cT, aO, cO, er, he, hT, -, -, ⟨rfl, -, hF⟩ | ⟨-, hn, -⟩, hb⟩
    · rw [formT46 hF] at he hT
      exact ⟨aT, cT, aO, _, cO, he, hT, hb⟩
    · exact absurd surfT46 hn))
  have HRt := Lib.hid (fun (W : World) (g : Nat) (ht : Tab W g 4 T46) => (rooted_any g 4 T46 W 4 ht (by decide)).mono (R' := fun e w' => ∃ aT cT gO cO gC cC, e = .returned (.tuple #[.agg #[.int .i64 4, .slice aT 4 cT], .slice (some ⟨gO, 0, none⟩) 4 cO, .slice (some ⟨gC, 0, none⟩) 4 cC]) ∧ TrisRd w' (.slice aT 4 cT) W46 ∧ gO < w'.heap.size ∧ w'.cell? ⟨gO, 0, none⟩ = some (.int .i64 2) ∧ gC < w'.heap.size ∧ w'.cell? ⟨gC, 0, none⟩ = some (.int .i64 4) ∧ Below W.heap.size W w') (by
    rintro e w' ⟨vT, vO, vC, he, hT, hO, hC, hb⟩
    rw [rnT46] at he hT hO
    rw [rtT46] at hC
    obtain ⟨aT, cT, rfl⟩ := ownsRow_slice hT
    obtain ⟨gO, cO, rfl, -, lO⟩ := hO.form (by decide)
    obtain ⟨gC, cC, rfl, -, lC⟩ := hC.form (by decide)
    have c0 := hO.cellAt 0 (by decide)
    have c1 := hC.cellAt 0 (by decide)
    exact ⟨aT, cT, gO, cO, gC, cC, he, TrisRd.of_row hT, lO, c0, lC, c1, hb⟩))
  have HSm := Lib.hid (fun (W : World) (v1 v2 : Value) (h1 : TrisRd W v1 W46) (h2 : TrisRd W v2 W46) => (same_any 4 4 v1 v2 W46 W46 W h1 h2 (by decide) (by decide)).mono (R' := fun e w' => e = .returned (.bool true) ∧ Below W.heap.size W w') (by
    rintro e w' ⟨he, hb⟩
    exact ⟨by simpa using he, hb⟩))
  have HEq := Lib.hid (fun (W : World) (v1 v2 : Value) (h1 : TrisRd W v1 T46) (h2 : TrisRd W v2 W46) => (equal_any 4 4 v1 v2 T46 W46 W h1 h2 (by decide) (by decide) (by decide) (by decide)).mono (R' := fun e w' => e = .returned (.bool true) ∧ Below W.heap.size W w') (by
    rintro e w' ⟨b, he, hb1, hb⟩
    rw [hb1.2 formeq46] at he
    exact ⟨he, hb⟩))
  have HLs := Lib.hid (fun (W : World) (v : Value) (h1 : TrisRd W v T46) => (less_any 4 4 v v T46 T46 W h1 h1 (by decide) (by decide)).mono (R' := fun e w' => e = .returned (.bool false) ∧ Below W.heap.size W w') (by
    rintro e w' ⟨he, hb⟩
    rw [ordM_self] at he
    exact ⟨by simpa using he, hb⟩))
  have hb1 := (Blk.new w 72 (ws3 T46).toArray).alloc (.cells #[.int .i64 4, .slice (some ⟨w.heap.size, 0, none⟩) 4 4] 24)
  have hb2 : Blk ((w.alloc (.cells (ws3 T46).toArray 72)).alloc (.cells #[.int .i64 4, .slice (some ⟨w.heap.size, 0, none⟩) 4 4] 24)) (w.heap.size + 1) 24 #[.int .i64 4, .slice (some ⟨w.heap.size, 0, none⟩) 4 4] := blk_new_at (by simp)
  have hB0 : Below w.heap.size w ((w.alloc (.cells (ws3 T46).toArray 72)).alloc (.cells #[.int .i64 4, .slice (some ⟨w.heap.size, 0, none⟩) 4 4] 24)) := ((Below.refl _ _).alloc (Nat.le_refl _) _).alloc (by simp) _
  have hT0 : TrisRd _ (.slice (some ⟨w.heap.size, 0, none⟩) 4 4) T46 := tris_blk hb1 (by decide)
  have e46 : (ws3 T46).toArray = #[.int .i64 0, .int .i64 1, .int .i64 2, .int .i64 0, .int .i64 2, .int .i64 3, .int .i64 0, .int .i64 3, .int .i64 1, .int .i64 1, .int .i64 3, .int .i64 2] := rfl
  rw [e46] at hb1 hb2 hB0 hT0
  have HB0 := Lib.hid hB0
  have HB2 := Lib.hid hb2
  have HT0 := Lib.hid hT0
  obtain ⟨l2, x0, -, x1, -⟩ := hb2.two
  clear hb1 hb2 hB0 hT0 e46
  go_enter Tryz.func11, Tryz.ntmps11
  go_upto_region 2 with fail
  generalize (w.alloc (.cells #[.int .i64 0, .int .i64 1, .int .i64 2, .int .i64 0, .int .i64 2, .int .i64 3, .int .i64 0, .int .i64 3, .int .i64 1, .int .i64 1, .int .i64 3, .int .i64 2] 72)).alloc (.cells #[.int .i64 4, .slice (some ⟨w.heap.size, 0, none⟩) 4 4] 24) = W0 at *
  go_upto_region 3 with (go_at_call 33; go_loud (refine (HNew.out _ _ HT0.out).mono ?_; rintro e w1 ⟨g, rfl, hg, hb1⟩))
  have hA1 := (Below.refl w1.heap.size w1).alloc (Nat.le_refl _) (.cells #[.int .i64 0, .int .i64 0, .int .i64 0] 74)
  have hBw := HB0.out.trans ((hb1.trans (hA1.mono hb1.size)).mono HB0.out.size)
  have hK := (HB2.out.below hb1 l2).below hA1 (Nat.lt_of_lt_of_le l2 hb1.size)
  have HT1 := Lib.hid ((HT0.out.below hb1).below hA1)
  have Hg1 := Lib.hid (hg.below hA1)
  clear hA1 hb1 hg x0 x1
  generalize w1.alloc (.cells #[.int .i64 0, .int .i64 0, .int .i64 0] 74) = W1 at *
  have HK1 := Lib.hid hK
  have HB1 := Lib.hid hBw
  obtain ⟨l3, x0, -, x1, -⟩ := hK.two
  clear hK hBw
  go_upto_region 4 with (go_at_call 18; go_loud (refine (HFm.out _ _ HT1.out).mono ?_; rintro e w2 ⟨aF, cF, aO0, nO0, cO0, rfl, hF2, hb2⟩))
  have hA2 := (Below.refl w2.heap.size w2).alloc (Nat.le_refl _) (.cells #[.int .i64 4, .slice aF 4 cF] 24)
  have hBw := HB1.out.trans ((hb2.trans (hA2.mono hb2.size)).mono HB1.out.size)
  have hK := (HK1.out.below hb2 l3).below hA2 (Nat.lt_of_lt_of_le l3 hb2.size)
  have hKf := Blk.new w2 24 #[.int .i64 4, .slice aF 4 cF]
  have HT2 := Lib.hid ((HT1.out.below hb2).below hA2)
  have Hg2 := Lib.hid ((Hg1.out.below hb2).below hA2)
  have HF2 := Lib.hid (hF2.below hA2)
  clear hA2 hb2 hF2 x0 x1
  generalize w2.alloc (.cells #[.int .i64 4, .slice aF 4 cF] 24) = W2 at *
  generalize w2.heap.size = qf at *
  have HK2 := Lib.hid hK
  have HKf2 := Lib.hid hKf
  have HB2 := Lib.hid hBw
  have l4 := hK.lt
  clear hK hBw hKf l2 l3
  go_upto_region 5 with (go_at_call 13; go_loud (refine (HRt.out _ _ Hg2.out).mono ?_; rintro e w3 ⟨aR, cR, gO, cO, gC, cC, rfl, hR3, lO, o3, lC, c3, hb3⟩))
  have hA3 := (Below.refl w3.heap.size w3).alloc (Nat.le_refl _) (.cells #[.int .i64 4, .slice aR 4 cR] 24)
  have hBw := HB2.out.trans ((hb3.trans (hA3.mono hb3.size)).mono HB2.out.size)
  have hK := (HK2.out.below hb3 l4).below hA3 (Nat.lt_of_lt_of_le l4 hb3.size)
  have hKf := (HKf2.out.below hb3 HKf2.out.lt).below hA3 (Nat.lt_of_lt_of_le HKf2.out.lt hb3.size)
  have hKr := Blk.new w3 24 #[.int .i64 4, .slice aR 4 cR]
  have hT3 := (HT2.out.below hb3).below hA3
  have hF3 := (HF2.out.below hb3).below hA3
  have hR3 := hR3.below hA3
  have o4 := (hA3.cell (p := ⟨gO, 0, none⟩) lO).trans o3
  have c4 := (hA3.cell (p := ⟨gC, 0, none⟩) lC).trans c3
  have lO4 := Nat.lt_of_lt_of_le lO hA3.size
  have lC4 := Nat.lt_of_lt_of_le lC hA3.size
  clear hA3 hb3 lO lC o3 c3
  generalize w3.alloc (.cells #[.int .i64 4, .slice aR 4 cR] 24) = W3 at *
  generalize w3.heap.size = qr at *
  obtain ⟨Wt, hWt⟩ : ∃ Wt, (W3.alloc (.cells #[.int .i64 0, .int .i64 1, .int .i64 2, .int .i64 3, .int .i64 2, .int .i64 1, .int .i64 3, .int .i64 0, .int .i64 2, .int .i64 3, .int .i64 1, .int .i64 0] 72)).alloc (.cells #[.int .i64 4, .slice (some ⟨W3.heap.size, 0, none⟩) 4 4] 24) = Wt := ⟨_, rfl⟩
  have hA4 : Below W3.heap.size W3 Wt := by rw [← hWt]; exact ((Below.refl _ _).alloc (Nat.le_refl _) _).alloc (by simp) _
  have hBl : Blk Wt W3.heap.size 72 (ws3 W46).toArray := by rw [← hWt]; exact (Blk.new W3 _ _).alloc _
  have hKw : Blk Wt (W3.heap.size + 1) 24 #[.int .i64 4, .slice (some ⟨W3.heap.size, 0, none⟩) 4 4] := by rw [← hWt]; exact blk_new_at (by simp)
  have hW4 : TrisRd Wt (.slice (some ⟨W3.heap.size, 0, none⟩) 4 4) W46 := tris_blk hBl (by decide)
  have HT4 := Lib.hid (fun (W : World) (hW : Below Wt.heap.size Wt W) => (hT3.below hA4).below hW)
  have HF4 := Lib.hid (fun (W : World) (hW : Below Wt.heap.size Wt W) => (hF3.below hA4).below hW)
  have HR4 := Lib.hid (fun (W : World) (hW : Below Wt.heap.size Wt W) => (hR3.below hA4).below hW)
  have HW4 := Lib.hid (fun (W : World) (hW : Below Wt.heap.size Wt W) => hW4.below hW)
  have k1 := hK.below hA4 hK.lt
  have k2 := hKf.below hA4 hKf.lt
  have k3 := hKr.below hA4 hKr.lt
  have o5 := (hA4.cell (p := ⟨gO, 0, none⟩) lO4).trans o4
  have c5 := (hA4.cell (p := ⟨gC, 0, none⟩) lC4).trans c4
  have lO5 := Nat.lt_of_lt_of_le lO4 hA4.size
  have lC5 := Nat.lt_of_lt_of_le lC4 hA4.size
  have HCs := Lib.hid (fun (W : World) (hW : Below Wt.heap.size Wt W) => And.intro (k1.below hW k1.lt).two (And.intro (k2.below hW k2.lt).two (And.intro (k3.below hW k3.lt).two (And.intro (hKw.below hW hKw.lt).two (And.intro ((hW.cell (p := ⟨gO, 0, none⟩) lO5).trans o5) ((hW.cell (p := ⟨gC, 0, none⟩) lC5).trans c5))))))
  have HBw4 := Lib.hid (hBw.trans (hA4.mono hBw.size))
  obtain ⟨l5, x0, -, x1, -⟩ := hK.two
  clear k1 k2 k3 o5 c5 lO5 lC5 hKw hW4 hBl hA4 hBw hK hKf hKr hT3 hF3 hR3 o4 c4 lO4 lC4
  go_upto_region 6 with fail
  try rw [hWt]
  have hcur : Below Wt.heap.size Wt Wt := Below.refl _ _
  obtain ⟨⟨a0, a1, -, a2, -⟩, ⟨b0, b1, -, b2, -⟩, ⟨d0, d1, -, d2, -⟩, ⟨e0, e1, -, e2, -⟩, g0, h0⟩ := HCs.out _ hcur
  generalize W3.heap.size = qw at *
  clear x0 x1 l5 hWt
  go_wp2_with (first
    | (go_at_call 15; go_loud (refine (HSm.out _ _ _ (by first | exact HF4.out _ hcur | exact HR4.out _ hcur) (HW4.out _ hcur)).mono ?_); rintro e w9 ⟨rfl, hb9⟩; have hcur9 := hcur.trans (hb9.mono hcur.size); clear hb9 a0 a1 a2 b0 b1 b2 d0 d1 d2 e0 e1 e2 g0 h0 hcur; have hcur := hcur9; clear hcur9; obtain ⟨⟨a0, a1, -, a2, -⟩, ⟨b0, b1, -, b2, -⟩, ⟨d0, d1, -, d2, -⟩, ⟨e0, e1, -, e2, -⟩, g0, h0⟩ := HCs.out _ hcur)
    | (go_at_call 34; go_loud (refine (HEq.out _ _ _ (HT4.out _ hcur) (HW4.out _ hcur)).mono ?_); rintro e w9 ⟨rfl, hb9⟩; have hcur9 := hcur.trans (hb9.mono hcur.size); clear hb9 a0 a1 a2 b0 b1 b2 d0 d1 d2 e0 e1 e2 g0 h0 hcur; have hcur := hcur9; clear hcur9; obtain ⟨⟨a0, a1, -, a2, -⟩, ⟨b0, b1, -, b2, -⟩, ⟨d0, d1, -, d2, -⟩, ⟨e0, e1, -, e2, -⟩, g0, h0⟩ := HCs.out _ hcur)
    | (go_at_call 35; go_loud (refine (HLs.out _ _ (HT4.out _ hcur)).mono ?_); rintro e w9 ⟨rfl, hb9⟩; have hcur9 := hcur.trans (hb9.mono hcur.size)))
  go_ret
  exact ⟨by simp, HBw4.out.trans (hcur9.mono HBw4.out.size)⟩
end Go.Proofs.YtghlnknncahkgaaGreat
