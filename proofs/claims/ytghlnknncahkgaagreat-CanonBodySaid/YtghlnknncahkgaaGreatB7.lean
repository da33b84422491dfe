/-
  Texts joined by program, what the law uses alone: Rr46 HeldU Bdd Cbd OrdR Lst FrI RfS Bds RbS ShlM.
-/
import Derived.Deep.DeepCutAuto
import Derived.Lib.QuietBelow
import Derived.OrdersHeld
import Derived.StillTail
import Derived.Deep.RegionHeld3
import Derived.Deep.AppendLies
import Derived.Deep.RegionLaw
import Derived.Test.YtghlnknncahkgaaGreatB6
import Derived.Test.YtghlnknncahkgaaGreatB5
import Derived.Test.YtghlnknncahkgaaGreatB1
import Derived.Test.YtghlnknncahkgaaGreatB4
import Derived.Test.YtghlnknncahkgaaGreatB3
namespace Go.Proofs.YtghlnknncahkgaaGreat
open Go.RowKit Go.Maps

theorem infoTriR : (Tryz.prog.info? 72).map (fun i => (i.zero, i.size, i.bytes)) = some (some (.agg #[.int .i64 0, .int .i64 0, .int .i64 0]), 3, 24) := by kernel_rfl
theorem addVs_len : ∀ (l old : List Int), (addVs old l).length ≤ old.length + l.length
  | [], old => by simp [addVs]
  | a :: r, old => by
    have h1 := addVs_len r (addV old a)
    have h2 := (addV_len (old := old) (v := a)).2
    show (addVs (addV old a) r).length ≤ _
    rw [List.length_cons]
    omega
theorem RsSt.setT {w2 W : World} {bx gt q : Nat} {old fs : List Int} {TT : List Tr} {vT vV vF u : Value} {cs : Array Value} (h : RsSt w2 W bx old TT fs vT vV vF) (hb : Blk W gt 72 cs) (h1 : vT.ownBlock ≠ some gt) (hbx : bx ≠ gt) (hge : w2.heap.size ≤ gt) : RsSt w2 (W.setCell ⟨gt, q, none⟩ u) bx old TT fs vT vV vF :=
  ⟨h.kx.far (p := ⟨gt, q, none⟩) hbx u, h.rT.kept (gStR (World.grownBy.refl _ _) : W.grownBy (W.setCell ⟨gt, q, none⟩ u) (some gt)) (.inr h1), own_alloc_st h.rV hb (by decide), own_alloc_st h.rF hb (by decide), h.ne, h.bel.setCell hge u, h.le⟩
def vs3 (T : List Tr) (d : Nat) : List Int := [vertN T d, vertN T (Jor.nx d), vertN T (Jor.pv d)]
theorem cellsQ3 (T : List Tr) (old : List Int) (d : Nat) : cellsQ old (vs3 T d) 3 = [.int .i64 (triT T old d).1, .int .i64 (triT T old d).2.1, .int .i64 (triT T old d).2.2] := rfl
theorem addVs3 (T : List Tr) (old : List Int) (d : Nat) : addVs old (vs3 T d) = numT T old d := rfl
set_option maxRecDepth 100000 in
set_option maxHeartbeats 4000000 in
theorem rooted46_any (N : Int) (c : Nat) (v : Value) (T : List Tr) (w : World) (h : TrisRd w v T) (hc : c < 3 * T.length) (hl : T.length ≤ 1000) :
    Calls Tryz.prog 14 #[.agg #[.int .i64 N, v], .int .i64 (c : Int)] w fun e w' => ∃ vT vV vF, e = .returned (.tuple #[.agg #[.int .i64 ((rtN T c).1.length : Int), vT], vV, vF]) ∧
      w'.ownsRow w.heap.size 72 3 vT (rtN T c).2.length (ws3 (rtN T c).2) ∧ w'.ownsRow w.heap.size 3 1 vV (rtN T c).1.length (intsV (rtN T c).1) ∧ w'.ownsRow w.heap.size 3 1 vF (rtL T c).length (intsV (nats (rtL T c))) ∧ Below w.heap.size w w' := by
  obtain ⟨i2, hj2, b20, b21, b22⟩ := info_parts infoInt
  obtain ⟨i3, hj3, b30, b31, b32⟩ := info_parts infoTriR
  have hb1 := (Blk.new w 24 #[.int .i64 N, v]).alloc (.cells #[.int .i64 0, .slice none 0 0] 24)
  have hb2 : Blk ((w.alloc (.cells #[.int .i64 N, v] 24)).alloc (.cells #[.int .i64 0, .slice none 0 0] 24)) (w.heap.size + 1) 24 #[.int .i64 0, .slice none 0 0] := blk_new_at (by simp)
  have hB0 : Below w.heap.size w ((w.alloc (.cells #[.int .i64 N, v] 24)).alloc (.cells #[.int .i64 0, .slice none 0 0] 24)) := ((Below.refl _ _).alloc (Nat.le_refl _) _).alloc (by simp) _
  have hIs := is10_any N (c : Int) v T _ (h.below hB0) (by omega)
  rw [hasC_true (T := T) (c := (c : Int)) (by omega) (by omega)] at hIs
  have HIs := Lib.hid hIs
  have HD := Lib.hid (fun (W : World) (hW : Below w.heap.size w W) => dual_any N c v T W (h.below hW) hc hl)
  have HVx := Lib.hid (fun (k : Nat) (hk : k < 3 * T.length) (W : World) (hW : Below w.heap.size w W) => vertex10_any N k v T W (h.below hW) hk (by omega))
  obtain ⟨aT, cT, rfl, -⟩ := h
  obtain ⟨F, hF⟩ : ∃ F, T.length = F := ⟨_, rfl⟩
  rw [hF] at hb1 hb2 hB0 HIs HD HVx hl ⊢
  have HF := Lib.hid hF
  have Hc := Lib.hid hc
  rw [hF] at hc
  obtain ⟨l0, x0, -, x1, -⟩ := hb1.two
  have HB0 := Lib.hid hB0
  have HK := Lib.hid hb1
  have HKr := Lib.hid hb2
  clear hb1 hb2 hB0 hIs hF
  go_enter Tryz.func14, Tryz.ntmps14
  go_upto_region 3 with (go_at_call 40; go_loud (with_reducible refine HIs.out.mono ?_; rintro e w1 ⟨rfl, hb⟩))
  have hBw := HB0.out.trans (hb.mono HB0.out.size)
  have hk := HK.out.below hb l0
  have hkr := HKr.out.below hb HKr.out.lt
  obtain ⟨l1, y0, -, y1, -⟩ := hk.two
  have HB1 := Lib.hid hBw
  have HK1 := Lib.hid hk
  have HKr1 := Lib.hid hkr
  have hz1 := hBw.size
  have HD1 := Lib.hid (HD.out w1 hBw)
  clear hb hBw hk hkr x0 x1
  go_upto_region 4 with (go_at_call 41; go_loud (with_reducible refine HD1.out.mono ?_; rintro e w2 ⟨vL, vO, rfl, hrL, hrO, hb2⟩))
  obtain ⟨n, hn⟩ : ∃ n, (rtL T c).length = n := ⟨_, rfl⟩
  rw [hn] at hrO
  obtain ⟨aL, cL, rfl⟩ := ownsRow_slice hrL
  obtain ⟨aO, cO, rfl⟩ := ownsRow_slice hrO
  have hLk := LOk.rtL Hc.out
  have HLk := Lib.hid hLk
  have Hn := Lib.hid hn
  have hnF : n ≤ F := by have := hLk.len; rw [HF.out, hn] at this; exact this
  have HrL := Lib.hid hrL
  have HrO := Lib.hid hrO
  have hk2 := HK1.out.below hb2 l1
  have hkr2 := HKr1.out.below hb2 HKr1.out.lt
  have hB2 := HB1.out.trans (hb2.mono hz1)
  obtain ⟨l2, y0', -, y1', -⟩ := hk2.two
  have HK2 := Lib.hid hk2
  have HKr2 := Lib.hid hkr2
  have HB2 := Lib.hid hB2
  have hz2 := hB2.size
  clear hk2 hkr2 hB2 y0 y1 l1 hrL hrO hLk hn
  have hS0 : RsSt w2 (((w2.alloc (.cells #[.int .i64 0, .slice none 0 0] 24)).alloc (.cells #[] 3)).alloc (.cells #[] 3)) w2.heap.size [] [] [] (.slice none 0 0) (.slice (some ⟨w2.heap.size + 1, 0, none⟩) 0 0) (.slice (some ⟨w2.heap.size + 1 + 1, 0, none⟩) 0 0) :=
    ⟨((Blk.new w2 _ _).alloc _).alloc _, World.ownsRow_nil _ _ _ _, own_nil_blk ((show Blk ((w2.alloc (.cells #[.int .i64 0, .slice none 0 0] 24)).alloc (.cells #[] 3)) (w2.heap.size + 1) 3 #[] from blk_new_at (by simp)).alloc _) (by omega), own_nil_blk (blk_new_at (by simp)) (by omega), fun j e e2 => by
      have e3 : w2.heap.size + 1 = j := by simpa [Value.ownBlock] using e
      have e4 : w2.heap.size + 1 + 1 = j := by simpa [Value.ownBlock] using e2
      omega, (((Below.refl _ _).alloc (Nat.le_refl _) _).alloc (by simp) _).alloc (by simp; omega) _, Nat.le_refl _⟩
  have HS0 := Lib.hid hS0
  clear hS0
  go_wp2
  clear y0' y1'
  go_loopw [10, 11, 12] (fun vV vF i wr => ∃ k : Nat, k ≤ n ∧ i = .int .i64 k ∧ ∃ vT, RsSt w2 wr w2.heap.size (numL T ((rtL T c).take k) ([], [])).1 (numL T ((rtL T c).take k) ([], [])).2 (nats ((rtL T c).take k)) vT vV vF) (fun _ _ i _ => n - (intOf i).toNat)
  case atStart => exact ⟨0, Nat.zero_le _, rfl, _, HS0.out⟩
  case round =>
    clear HS0
    rename World => wr
    obtain ⟨k, hk, rfl, vT, hI⟩ := hrel
    have hzr := hI.bel.size
    obtain ⟨l3, y0, -, y1, -⟩ := (HK2.out.below hI.bel l2).two
    by_cases hlt : k < n
    · have hkl : k < (rtL T c).length := by rw [Hn.out]; exact hlt
      obtain ⟨d, hd⟩ : ∃ d, (rtL T c)[k]? = some d := ⟨(rtL T c)[k], List.getElem?_eq_getElem hkl⟩
      have hdF : d < 3 * F := by have := HLk.out.lt d (List.mem_of_getElem? hd); rw [HF.out] at this; exact this
      obtain ⟨dt, hdt⟩ : ∃ dt, d / 3 = dt := ⟨_, rfl⟩
      have hrO := own_below HrO.out hI.bel
      have hrL := own_below HrL.out hI.bel
      obtain ⟨gO, capO, eO, -, lO⟩ := hrO.form (by omega)
      cases eO
      obtain ⟨gL, capL, eL, -, lL⟩ := hrL.form (by omega)
      cases eL
      have o0 : wr.cell? ⟨gO, k, none⟩ = some (.int .i64 (dt : Int)) := by
        rw [hrO.cellAt k (by omega)]
        unfold intsV nats trisOf
        rw [List.getElem?_map, List.getElem?_map, List.getElem?_map, hd, ← hdt]
        rfl
      obtain ⟨lv, hlv⟩ : ∃ lv : Int, lv = if k = 0 then -1 else (d : Int) := ⟨_, rfl⟩
      have k0 : wr.cell? ⟨gL, dt, none⟩ = some (.int .i64 lv) := by
        rw [hrL.cellAt dt (by omega)]
        unfold intsV
        rw [List.getElem?_map, ← hdt, linkL_at HLk.out.nd hd (by omega), hlv]
        rfl
      have hd0 : k = 0 → d = c := by
        intro e
        subst e
        have : (rtL T c)[0]? = some c := by
          have hp : ∃ m, rtL T c = [c] ++ m := rtL_pre T c
          obtain ⟨m, hm⟩ := hp
          rw [hm]
          rfl
        rw [hd] at this
        exact Option.some.inj this
      have HLv := Lib.hid (And.intro hlv hd0)
      have hki : (k : Int) < (n : Int) := by omega
      have hdi : (dt : Int) < (F : Int) := by omega
      have HI := Lib.hid hI
      have HTk := Lib.hid (numL_take (T := T) hd ([], []))
      have HNk := Lib.hid (show nats ((rtL T c).take (k + 1)) = nats ((rtL T c).take k) ++ [(d : Int)] from by
        rw [List.take_succ_eq_append_getElem hkl]
        have : (rtL T c)[k] = d := by rw [List.getElem?_eq_getElem hkl] at hd; exact Option.some.inj hd
        rw [this]
        simp [nats])
      clear hI hrO hrL hlv hd0 hd hkl hdt
      go_upto_if 47 with fail
      go_cut [13] (fun v13 W => v13 = .int .i64 (d : Int) ∧ W = wr)
      case first =>
        by_cases h0 : k = 0
        · have hl9 := HLv.out.1
          rw [if_pos h0] at hl9
          subst hl9
          have hdc := HLv.out.2 h0
          have HDc := Lib.hid hdc
          clear h0 hdc
          go_wp2
          go_meet
          exact ⟨by rw [HDc.out], rfl⟩
        · have hl9 := HLv.out.1
          rw [if_neg h0] at hl9
          have hd9 : decide (lv < 0) = false := by simp; omega
          have hlv0 : 0 ≤ lv := by omega
          have HLd := Lib.hid hl9
          clear h0 hl9
          go_wp2
          go_meet
          exact ⟨by rw [HLd.out], rfl⟩
      case rest =>
        rename World => W3
        obtain ⟨rfl, hW⟩ := hcut
        subst hW
        obtain ⟨old, hold⟩ : ∃ old, (numL T ((rtL T c).take k) ([], [])).1 = old := ⟨_, rfl⟩
        obtain ⟨TT, hTT⟩ : ∃ TT, (numL T ((rtL T c).take k) ([], [])).2 = TT := ⟨_, rfl⟩
        obtain ⟨fs, hfs⟩ : ∃ fs, nats ((rtL T c).take k) = fs := ⟨_, rfl⟩
        rw [hold, hTT] at HTk
        rw [hfs] at HNk
        rw [hold, hTT, hfs] at HI
        have hlens := numL_len T ((rtL T c).take k) ([], [])
        rw [hold, hTT, List.length_take] at hlens
        simp only [List.length_nil] at hlens
        have hfl : fs.length ≤ 1000 := by rw [← hfs]; simp [nats]; omega
        have hoT : old.length ≤ 3000 ∧ TT.length ≤ 1000 := by omega
        obtain ⟨hol, hTl⟩ := hoT
        clear hold hTT hfs hlens o0 k0 lO lL
        have hA1 := HI.out.alloc (.cells #[.int .i64 (d : Int)] 3)
        have HA1 := Lib.hid hA1
        have c6 : fs.length + 1 ≤ maxLen := by unfold maxLen; omega
        have c7 : (fs.length + 1) * 8 ≤ 140737488355328 := by omega
        clear hA1
        go_upto_region 14 with (at_builtin; go_loud (refine wpList_append_lies _ rfl (.tmp 49) (.tmp 51) 28 rfl w2.heap.size 3 i2 _ 1 8 Tryz.underlying28 hj2 b20 b21 b22 rfl (by decide) _ fs.length (intsV fs) rfl HA1.out.rF ⟨W3.heap.size, 0, none⟩ 1 1 [.int .i64 (d : Int)] rfl rfl (World.news_of_block (heap_alloc_new _ _)) (by simp [Value.oneCell']) (by decide) c6 c7 (by simp; omega) (W3.heap.size + 1) (by simp) ?_); go_loud (intro g8 cap8 W8 hr8 hg8 hat8 hlt8))
        have hd8 := HA1.out.appF hg8 (fs4 := fs ++ [(d : Int)]) (v4 := .slice (some ⟨g8, 0, none⟩) (fs.length + 1) cap8) rfl (by rw [intsV_one1, List.length_append]; exact hr8) (hat8.imp id (fun e => by rw [e]; simp))
        have HNx := Lib.hid (fun (W : World) => next10_any d W (by omega))
        have HPv := Lib.hid (fun (W : World) => prev10_any d W (by omega))
        obtain ⟨nd, hnd⟩ : ∃ nd, Jor.nx d = nd := ⟨_, rfl⟩
        obtain ⟨pd, hpd⟩ : ∃ pd, Jor.pv d = pd := ⟨_, rfl⟩
        have hnF3 : nd < 3 * F := by rw [← hnd]; exact Jor.nx_lt hdF
        have hpF3 : pd < 3 * F := by rw [← hpd]; exact Jor.pv_lt hdF
        rw [hnd] at HNx
        rw [hpd] at HPv
        have HNP := Lib.hid (And.intro hnd hpd)
        have H8 := Lib.hid hd8
        have hz8 := hd8.bel.size
        obtain ⟨l4, y0, -, y1, -⟩ := (HK2.out.below hd8.bel l2).two
        clear hr8 hg8 hat8 hlt8 hd8 hnd hpd y0 y1 l3
        go_upto_region 16 with (first | (go_at_call 42; with_reducible refine (HNx.out _).mono ?_; rintro e W9 ⟨rfl, rfl⟩) | (go_at_call 43; with_reducible refine (HPv.out _).mono ?_; rintro e W9 ⟨rfl, rfl⟩))
        have hA9 := (((Below.refl W9.heap.size W9).alloc (Nat.le_refl _) (.cells #[.int .i64 (d : Int), .int .i64 (nd : Int), .int .i64 (pd : Int)] 3)).alloc (by simp) (.cells #[.int .i64 0, .int .i64 0, .int .i64 0] 72))
        have hI9 := H8.out.below hA9
        have hs9 := (Blk.new W9 3 #[.int .i64 (d : Int), .int .i64 (nd : Int), .int .i64 (pd : Int)]).alloc (.cells #[.int .i64 0, .int .i64 0, .int .i64 0] 72)
        have ht9 : Blk ((W9.alloc (.cells #[.int .i64 (d : Int), .int .i64 (nd : Int), .int .i64 (pd : Int)] 3)).alloc (.cells #[.int .i64 0, .int .i64 0, .int .i64 0] 72)) (W9.heap.size + 1) 72 #[.int .i64 0, .int .i64 0, .int .i64 0] := blk_new_at (by simp)
        have hgs9 := fun e => Nat.lt_irrefl _ (H8.out.rV.lt W9.heap.size e).2
        have hvT : vT.ownBlock ≠ some (W9.heap.size + 1) := fun e => by have := (H8.out.rT.lt _ e).2; omega
        have hget : w2.heap.size ≤ W9.heap.size + 1 := by omega
        generalize (W9.alloc (.cells #[.int .i64 (d : Int), .int .i64 (nd : Int), .int .i64 (pd : Int)] 3)).alloc (.cells #[.int .i64 0, .int .i64 0, .int .i64 0] 72) = Wa at *
        have hgt : W9.heap.size ≠ W9.heap.size + 1 := by omega
        generalize W9.heap.size + 1 = gt at *
        have HI9 := Lib.hid (And.intro hI9 (And.intro hs9 (And.intro ht9 hgs9)))
        have hbxl := hI9.kx.lt
        have hbxt : w2.heap.size ≠ gt := fun e => by
          have h1 := hI9.kx
          rw [e] at h1
          exact h1.ne_ ht9 (by decide) rfl
        generalize W9.heap.size = gs at *
        clear hA9 hI9 hs9 ht9 hgs9 l4
        go_wp2
        go_loopw [10, 16] (fun vV i wy => ∃ q : Nat, q ≤ 3 ∧ i = .int .i64 q ∧ RsSt w2 wy w2.heap.size (addVs old ((vs3 T d).take q)) TT (fs ++ [(d : Int)]) vT vV (.slice (some ⟨g8, 0, none⟩) (fs.length + 1) cap8) ∧ Blk wy gs 3 #[.int .i64 (d : Int), .int .i64 (nd : Int), .int .i64 (pd : Int)] ∧ Blk wy gt 72 (cellsQ old (vs3 T d) q).toArray ∧ vV.ownBlock ≠ some gs) (fun _ i _ => 3 - (intOf i).toNat)
        case atStart => exact ⟨0, by omega, rfl, HI9.out.1, HI9.out.2.1, HI9.out.2.2.1, HI9.out.2.2.2⟩
        case round =>
          clear HI9
          rename World => wy
          obtain ⟨q, hq, rfl, hIq, hsq, htq, hgq⟩ := hrel
          obtain ⟨aV, cV, rfl⟩ := ownsRow_slice hIq.rV
          by_cases hq3 : q < 3
          · obtain ⟨e, heF, hs0, hx0⟩ : ∃ e, e < 3 * F ∧ wy.cell? ⟨gs, q, none⟩ = some (.int .i64 (e : Int)) ∧ (vs3 T d)[q]? = some (vertN T e) := by
              obtain ⟨s0, s1, -, s2, -, s3, -⟩ := hsq.three
              obtain ⟨h1, h2⟩ := HNP.out
              rcases (by omega : q = 0 ∨ q = 1 ∨ q = 2) with rfl | rfl | rfl
              · exact ⟨d, hdF, s1, rfl⟩
              · exact ⟨nd, hnF3, s2, by rw [← h1]; rfl⟩
              · exact ⟨pd, hpF3, s3, by rw [← h2]; rfl⟩
            obtain ⟨x, hx⟩ : ∃ x, vertN T e = x := ⟨_, rfl⟩
            have hqv : q < (vs3 T d).length := by show q < 3; exact hq3
            have hadd : addVs old ((vs3 T d).take (q + 1)) = addV (addVs old ((vs3 T d).take q)) x := by
              rw [List.take_succ_eq_append_getElem hqv, addVs_snoc]
              rw [List.getElem?_eq_getElem hqv] at hx0
              rw [Option.some.inj hx0, hx]
            rw [hx] at hx0
            have hcs := fun (t : Nat) (ht : spot (addVs old ((vs3 T d).take (q + 1))) x = t) => (show (cellsQ old (vs3 T d) q).set q (.int .i64 (t : Int)) = cellsQ old (vs3 T d) (q + 1) from by rw [← ht]; exact cellsQ_step hx0 hq3)
            rw [hadd] at hcs
            have hcl : q < (cellsQ old (vs3 T d) q).length := by rw [cellsQ_len _ _ hq (Nat.le_of_lt hqv)]; exact hq3
            obtain ⟨tu, ht0⟩ : ∃ tu, wy.cell? ⟨gt, q, none⟩ = some tu := ⟨(cellsQ old (vs3 T d) q)[q], by rw [htq.cell]; simp [hcl]⟩
            have hHV := fun (W : World) (hW : Below w.heap.size w W) => HVx.out e heF W hW
            rw [hx] at hHV
            have HV := Lib.hid hHV
            obtain ⟨o', ho'⟩ : ∃ o', addVs old ((vs3 T d).take q) = o' := ⟨_, rfl⟩
            rw [ho'] at hIq hadd hcs hgq ⊢
            have hlo : o'.length ≤ 3003 := by
              have h1 := addVs_len ((vs3 T d).take q) old
              rw [ho', List.length_take] at h1
              have : (vs3 T d).length = 3 := rfl
              omega
            obtain ⟨m, hm⟩ : ∃ m, o'.length = m := ⟨_, rfl⟩
            rw [hm] at hIq hlo hgq ⊢
            have Hm := Lib.hid hm
            have HAd := Lib.hid (And.intro hadd hcs)
            obtain ⟨l5, y0, -, y1, -⟩ := (HK2.out.below hIq.bel l2).two
            have HBq := Lib.hid (fun (dd : Nat) (os : Array Obj) => HB2.out.trans ((hIq.bel.trans ((below_regrown wy dd os).mono hIq.bel.size)).mono hz2))
            have HIq := Lib.hid (And.intro hIq (And.intro hsq htq))
            have hqI : (q : Int) < 3 := by omega
            have hlgs := hsq.lt
            clear hIq hsq htq hx hx0 hm hadd hcs heF hHV hqv hcl ho'
            go_upto_region 19 with fail
            have u0 := cell_regrown y0
            have u1 := cell_regrown y1
            have u2 := cell_regrown hs0
            refine wp_region_quiet_below (by kernel_rfl) (by kernel_rfl) ?_
            repeat (go_big_quiet_step ((go_at_call 44; with_reducible exact Calls.regrown_of (HV.out _ (HBq.out _ _)))))
            refine wpQuiet_nil ?_
            intro _ hw'
            obtain ⟨⟨dq, osq⟩, hw''⟩ := hw'
            subst hw''
            have hI5 := HIq.out.1.below (below_regrown wy dq osq)
            have hs5 := HIq.out.2.1.below (below_regrown wy dq osq) HIq.out.2.1.lt
            have ht5 := HIq.out.2.2.below (below_regrown wy dq osq) HIq.out.2.2.lt
            have t0 := cell_regrown ht0 dq osq
            clear u0 u1 u2 y0 y1 hs0 l5 ht0
            generalize Sort.grow (redrawn wy dq) osq = wz at *
            have H5 := Lib.hid (And.intro hI5 (And.intro hs5 ht5))
            have tf := ht5.frozen q
            have hgtl := ht5.lt
            have hcv : ∀ (t : Nat) (y : Int), o'[t]? = some y → ∃ gV, aV = some ⟨gV, 0, none⟩ ∧ wz.cell? ⟨gV, t, none⟩ = some (.int .i64 y) := by
              intro t y hy
              have htm : t < m := by rw [← Hm.out]; exact (List.getElem?_eq_some_iff.1 hy).1
              obtain ⟨gV, cV', eV, -, -⟩ := hI5.rV.form (by rw [Hm.out]; omega)
              cases eV
              refine ⟨gV, rfl, ?_⟩
              rw [hI5.rV.cellAt t (by rw [Hm.out]; omega)]
              unfold intsV
              rw [List.getElem?_map, hy]
              rfl
            have HCv := Lib.hid hcv
            clear hI5 hs5 ht5 hcv
            go_wp2
            go_loopw [18] (fun i wq => ∃ t : Nat, t ≤ m ∧ i = .int .i64 t ∧ wq = wz ∧ ∀ t', t' < t → o'[t']? ≠ some x) (fun i _ => m - (intOf i).toNat)
            case atStart => exact ⟨0, Nat.zero_le _, rfl, rfl, fun _ h => absurd h (by omega)⟩
            case round =>
              rename World => wq
              obtain ⟨t, htm, rfl, hwq, hno⟩ := hrel
              obtain rfl : wz = wq := hwq.symm
              clear hwq
              have HNo := Lib.hid hno
              clear hno
              by_cases htl : t < m
              · obtain ⟨y, hy⟩ : ∃ y, o'[t]? = some y := ⟨o'[t]'(by rw [Hm.out]; exact htl), List.getElem?_eq_getElem _⟩
                obtain ⟨gV, rfl, hcy⟩ := HCv.out t y hy
                have hti : (t : Int) < (m : Int) := by omega
                by_cases hyx : y = x
                · subst hyx
                  have hmem := mem_of_at hy
                  have hsp := spot_first hy HNo.out
                  have hae : addV o' y = o' := by unfold addV; rw [if_pos hmem]
                  have hc9 := HAd.out.2 t (by rw [hae]; exact hsp)
                  have HA9 := Lib.hid (HAd.out.1.trans hae)
                  have htm2 : ((t : Int) == (m : Int)) = false := by simp; omega
                  have hst := H5.out.2.2.set_ q (.int .i64 (t : Int))
                  rw [List.setIfInBounds_toArray, hc9] at hst
                  have hR9 := H5.out.1.setT (q := q) (u := .int .i64 (t : Int)) H5.out.2.2 hvT hbxt hget
                  have hs9 := H5.out.2.1.far (p := ⟨gt, q, none⟩) hgt (.int .i64 (t : Int))
                  have H9 := Lib.hid (And.intro hR9 (And.intro hs9 hst))
                  clear hy hmem hsp hae hc9 hst hR9 hs9
                  go_wp2
                  go_roundw
                  case measure => simp [intOf]; omega
                  case rel => exact ⟨q + 1, by omega, by go_num, by rw [HA9.out]; exact H9.out.1, H9.out.2.1, H9.out.2.2, hgq⟩
                · have hyxb : (y != x) = true := by simpa using hyx
                  have HN2 := Lib.hid (show ∀ t', t' < t + 1 → o'[t']? ≠ some x from fun t' h => by
                    by_cases e : t' = t
                    · subst e
                      rw [hy]
                      exact fun e => hyx (Option.some.inj e)
                    · exact HNo.out t' (by omega))
                  clear hy hyx
                  go_wp2
                  go_roundw
                  case measure => simp [intOf]; omega
                  case rel => exact ⟨t + 1, by omega, by go_num, by first | rfl | trivial, HN2.out⟩
              · obtain rfl : m = t := by omega
                have hnm := not_mem_all (fun i hi => HNo.out i (by rw [← Hm.out]; exact hi))
                have hae : addV o' x = o' ++ [x] := by unfold addV; rw [if_neg hnm]
                have hc9 := HAd.out.2 m (by rw [hae, spot_new hnm]; exact Hm.out)
                have HA9 := Lib.hid (HAd.out.1.trans hae)
                have HC9 := Lib.hid hc9
                have HA1 := Lib.hid (H5.out.1.alloc (.cells #[.int .i64 x] 3))
                have hrV := HA1.out.rV
                rw [Hm.out] at hrV
                have HrV := Lib.hid hrV
                have hzz := H5.out.1.bel.size
                have hgsl := H5.out.2.1.lt
                have d6 : m + 1 ≤ maxLen := by unfold maxLen; omega
                have d7 : (m + 1) * 8 ≤ 140737488355328 := by omega
                clear hnm hae hc9 hrV HNo
                go_upto_region 25 with (at_builtin; go_loud (refine wpList_append_lies _ rfl (.tmp 88) (.tmp 90) 28 rfl w2.heap.size 3 i2 _ 1 8 Tryz.underlying28 hj2 b20 b21 b22 rfl (by decide) (.slice aV m cV) m (intsV o') rfl HrV.out ⟨wz.heap.size, 0, none⟩ 1 1 [.int .i64 x] rfl rfl (World.news_of_block (heap_alloc_new _ _)) (by simp [Value.oneCell']) (by decide) d6 d7 (by simp; omega) (wz.heap.size + 1) (by simp) ?_); go_loud (intro g9 cap9 W10 hr9 hg9 hat9 hlt9))
                have hl9 : (o' ++ [x]).length = m + 1 := by rw [List.length_append, Hm.out]; rfl
                have hR8 := HA1.out.appV hg9 (old4 := o' ++ [x]) (v4 := .slice (some ⟨g9, 0, none⟩) (m + 1) cap9) rfl (by rw [hl9, intsV_one1]; exact hr9) (hat9.imp id (fun e => by rw [e]; simp))
                have hs8 := (H5.out.2.1.alloc (.cells #[.int .i64 x] 3)).grown hg9 (fun e => hgq e.symm)
                have ht8 := (H5.out.2.2.alloc (.cells #[.int .i64 x] 3)).grown hg9 (fun e => own_blk_ne HrV.out (H5.out.2.2.alloc (.cells #[.int .i64 x] 3)) (by decide) e.symm)
                have hgn : (Value.slice (some ⟨g9, 0, none⟩) (m + 1) cap9).ownBlock ≠ some gs := by
                  intro e
                  have e2 : g9 = gs := by simpa [Value.ownBlock] using e
                  rcases hat9 with h | h
                  · exact hgq (h.trans (by rw [e2]))
                  · omega
                have t9 : W10.cell? ⟨gt, q, none⟩ = some tu := by
                  have ne9 : some gt ≠ (Value.slice aV m cV).ownBlock := fun e => own_blk_ne HrV.out (H5.out.2.2.alloc (.cells #[.int .i64 x] 3)) (by decide) e.symm
                  rw [hg9.cell_far ⟨gt, q, none⟩ (by simp; omega) ne9]
                  have : ((wz.alloc (.cells #[.int .i64 x] 3)).cell? ⟨gt, q, none⟩) = wz.cell? ⟨gt, q, none⟩ := ((Below.refl wz.heap.size wz).alloc (Nat.le_refl _) (.cells #[.int .i64 x] 3)).cell (p := ⟨gt, q, none⟩) hgtl
                  rw [this]
                  exact t0
                have hst := ht8.set_ q (.int .i64 (m : Int))
                rw [List.setIfInBounds_toArray, HC9.out] at hst
                have tf9 := ht8.frozen q
                have hR9 := hR8.setT (q := q) (u := .int .i64 (m : Int)) ht8 hvT hbxt hget
                have hs9 := hs8.far (p := ⟨gt, q, none⟩) hgt (.int .i64 (m : Int))
                have H9 := Lib.hid (And.intro hR9 (And.intro hs9 (And.intro hst hgn)))
                have Hl9 := Lib.hid hl9
                clear hl9 hR8 hs8 ht8 hgn hst hR9 hs9 hr9 hg9 hat9 hlt9 t0 tf
                go_wp2
                go_roundw
                case measure => simp [intOf]; omega
                case rel => exact ⟨q + 1, by omega, by go_num, by rw [HA9.out]; exact H9.out.1, H9.out.2.1, H9.out.2.2.1, H9.out.2.2.2⟩
          · obtain rfl : q = 3 := by omega
            have e3 : (vs3 T d).take 3 = vs3 T d := rfl
            rw [e3, addVs3] at hIq
            rw [cellsQ3] at htq
            obtain ⟨⟨tx, ty, tz⟩, htr⟩ : ∃ t, triT T old d = t := ⟨_, rfl⟩
            rw [htr] at htq HTk
            obtain ⟨lt0, t0, -, t1, -, t2, -⟩ : gt < wy.heap.size ∧ wy.cell? ⟨gt, 0, none⟩ = some (.int .i64 tx) ∧ wy.frozen? ⟨gt, 0, none⟩ = false ∧ wy.cell? ⟨gt, 1, none⟩ = some (.int .i64 ty) ∧ wy.frozen? ⟨gt, 1, none⟩ = false ∧ wy.cell? ⟨gt, 2, none⟩ = some (.int .i64 tz) ∧ wy.frozen? ⟨gt, 2, none⟩ = false := ⟨htq.lt, htq.cell 0, htq.frozen 0, htq.cell 1, htq.frozen 1, htq.cell 2, htq.frozen 2⟩
            obtain ⟨lx, z0, f0, z1, f1⟩ := hIq.kx.two
            have HA1 := Lib.hid (hIq.alloc (.cells #[.int .i64 tx, .int .i64 ty, .int .i64 tz] 72))
            have hzy := hIq.bel.size
            have d6 : TT.length + 1 ≤ maxLen := by unfold maxLen; omega
            have d7 : (TT.length + 1) * 24 ≤ 140737488355328 := by omega
            clear hIq hsq htq e3 htr
            go_upto_region 9 with (at_builtin; go_loud (refine wpList_append_lies _ rfl (.tmp 96) (.tmp 98) 22 rfl w2.heap.size 72 i3 _ 3 24 Tryz.underlying22 hj3 b30 b31 b32 rfl (by decide) vT TT.length (ws3 TT) rfl HA1.out.rT ⟨wy.heap.size, 0, none⟩ 1 1 [.int .i64 tx, .int .i64 ty, .int .i64 tz] rfl rfl (World.news_of_block (heap_alloc_new _ _)) (by simp [Value.oneCell']) (by decide) d6 d7 (by simp; omega) (wy.heap.size + 1) (by simp) ?_); go_loud (intro g9 cap9 W10 hr9 hg9 hat9 hlt9; have h9 := HA1.out.appT hg9 (T4 := TT ++ [(tx, ty, tz)]) (v4 := .slice (some ⟨g9, 0, none⟩) (TT.length + 1) cap9) (by rw [ws3_snoc, List.length_append]; exact hr9); obtain ⟨lx', z0', f0', z1', f1'⟩ := h9.1.two; have H9 := Lib.hid h9.2; clear hr9 hg9 hat9 hlt9 h9))
            go_wp2
            go_roundw
            case measure => simp [intOf]; omega
            case rel => exact ⟨k + 1, by omega, by go_num, _, by rw [HTk.out, HNk.out]; exact H9.out⟩
    · obtain rfl : k = n := by omega
      rw [List.take_of_length_le (by rw [Hn.out]; exact Nat.le_refl _)] at hI
      change RsSt w2 wr w2.heap.size (rtN T c).1 (rtN T c).2 (nats (rtL T c)) vT _ _ at hI
      obtain ⟨aT9, cT9, rfl⟩ := ownsRow_slice hI.rT
      obtain ⟨aV9, cV9, rfl⟩ := ownsRow_slice hI.rV
      obtain ⟨aF9, cF9, rfl⟩ := ownsRow_slice hI.rF
      obtain ⟨lx, z0, f0, z1, f1⟩ := hI.kx.two
      have hkr := HKr2.out.below hI.bel HKr2.out.lt
      have hs2 : w.heap.size + 1 < w2.heap.size := HKr2.out.lt
      obtain ⟨lr, r0, q0, r1, q1⟩ := hkr.two
      have hk1 := hI.kx.set_ 0 (.int .i64 ((rtN T c).1.length : Int))
      rw [List.setIfInBounds_toArray] at hk1
      have hk1 : Blk (wr.setCell ⟨w2.heap.size, 0, none⟩ (.int .i64 ((rtN T c).1.length : Int))) w2.heap.size 24 #[.int .i64 ((rtN T c).1.length : Int), .slice aT9 (rtN T c).2.length cT9] := hk1
      have hr1 := hkr.far (p := ⟨w2.heap.size, 0, none⟩) (fun e => by have e2 : w.heap.size + 1 = w2.heap.size := e; omega) (.int .i64 ((rtN T c).1.length : Int))
      have hr3 := (hr1.set_ 0 (.int .i64 ((rtN T c).1.length : Int))).set_ 1 (.slice aT9 (rtN T c).2.length cT9)
      rw [List.setIfInBounds_toArray, List.setIfInBounds_toArray] at hr3
      have HFin := Lib.hid (show Blk _ (w.heap.size + 1) 24 #[.int .i64 ((rtN T c).1.length : Int), .slice aT9 (rtN T c).2.length cT9] from hr3)
      have own3 : ∀ {e : TypeId} {s m : Nat} {u : Value} {xs : List Value}, wr.ownsRow w2.heap.size e s u m xs → e ≠ 24 → (((wr.setCell ⟨w2.heap.size, 0, none⟩ (.int .i64 ((rtN T c).1.length : Int))).setCell ⟨w.heap.size + 1, 0, none⟩ (.int .i64 ((rtN T c).1.length : Int))).setCell ⟨w.heap.size + 1, 1, none⟩ (.slice aT9 (rtN T c).2.length cT9)).ownsRow w2.heap.size e s u m xs := fun ho hne => own_alloc_st (own_alloc_st (own_alloc_st ho hI.kx hne) hr1 hne) (hr1.set_ 0 (.int .i64 ((rtN T c).1.length : Int))) hne
      have hfl : (nats (rtL T c)).length = (rtL T c).length := by simp [nats]
      have HRows := Lib.hid (And.intro (own3 hI.rT (by decide)) (And.intro (own3 hI.rV (by decide)) (own3 hI.rF (by decide))))
      have HBe := Lib.hid (((HB2.out.trans (hI.bel.mono hz2)).setCell (p := ⟨w2.heap.size, 0, none⟩) hz2 (.int .i64 ((rtN T c).1.length : Int))).setCell (p := ⟨w.heap.size + 1, 0, none⟩) (by simp) (.int .i64 ((rtN T c).1.length : Int)) |>.setCell (p := ⟨w.heap.size + 1, 1, none⟩) (by simp) (.slice aT9 (rtN T c).2.length cT9))
      have Hfl := Lib.hid hfl
      clear hI hkr hk1 hr1 hr3 own3 hfl
      go_wp2
      obtain ⟨-, p0, -, p1, -⟩ := HFin.out.two
      refine bodyPost_ret (v := .tuple #[.agg #[.int .i64 ((rtN T c).1.length : Int), .slice aT9 (rtN T c).2.length cT9], .slice aV9 (rtN T c).1.length cV9, .slice aF9 (nats (rtL T c)).length cF9]) (by simp [results, Tryz.results14, go_sem, p0, p1]) rfl ?_
      exact ⟨_, _, _, rfl, own_lower HRows.out.1 hz2, own_lower HRows.out.2.1 hz2, by
        have h9 := own_lower HRows.out.2.2 hz2
        rw [← Hfl.out]
        exact h9, HBe.out⟩
end Go.Proofs.YtghlnknncahkgaaGreat
namespace Go.Proofs.YtghlnknncahkgaaGreat
open Go.RowKit

section
variable {P : Program} {l : List Oper} {Q : Exit → Act → World → Prop} {md : Region.Mode} {S : World → Prop} {n : Nat}

/-- Whatever order is picked from here on; behind each operation but the last one S holds. -/
def wpAnyU (P : Program) (md : Region.Mode) (l : List Oper) (Q : Exit → Act → World → Prop) (S : World → Prop) (n : Nat) : Nat → Array Bool → Act → World → Prop
  | 0, listed, a, w => Region.ready md l.toArray listed = [] ∧ Q .normal a w
  | f + 1, listed, a, w => (Region.ready md l.toArray listed = [] → Q .normal a w) ∧
    ∀ i ∈ Region.ready md l.toArray listed, wpOp P l.toArray Q i (fun a' w' => (i ≠ n → S w') ∧ wpAnyU P md l Q S n f (listed.setIfInBounds i true) a' w') a w
theorem wpAny_of_U : ∀ (f : Nat) (listed : Array Bool) (a : Act) (w : World), wpAnyU P md l Q S n f listed a w → wpAny P md l.toArray Q f listed a w
  | 0, _, _, _, h => h
  | f + 1, _, _, _, h => ⟨h.1, fun i hi => wpOp_mono (fun a' w' h' => wpAny_of_U f _ a' w' h'.2) (h.2 i hi)⟩
/-- Who waits for all is behind who has not come up. -/
theorem last_waits {listed : Array Bool} (hs : Region.sinkB md l.toArray n = true) (hc : Region.chainB md l.toArray n = true) (hn : n + 1 = l.length) (inv : HeadInv md l.toArray n listed) {i : Nat} (hi : i < n) (hun : listed.getD i true = false) : ∀ j ∈ Region.ready md l.toArray listed, j < n := fun j hj => by
  rcases Nat.lt_or_ge j n with h | h
  · exact h
  · exact absurd hj (tail_waits hs hc (by simp; omega) inv _ i rfl hi hun j h)
theorem wpAnyU_first {i : Nat} {oi : Oper} {v : Value} (hi : l[i]? = some oi) (hsel : ∀ (j : Nat) (o : Oper) cs b, l.toArray[j]? = some o → o.op ≠ .select cs b)
    (hs : Region.sinkB md l.toArray n = true) (hc : Region.chainB md l.toArray n = true) (hn : n + 1 = l.length) (hin : i < n)
    (hQ : ∀ c a w, Q (.panic c) (a.put oi.dst v) w → Q (.panic c) a w) :
    ∀ (f : Nat) (listed : Array Bool) (a : Act) (w : World), HeadInv md l.toArray n listed →
      (∀ j oj, l.toArray[j]? = some oj → j ≠ i → listed.getD j true = false → (∀ e ∈ oj.after, Region.binds md e = true → e.on ≠ i) → oi.apart l.toArray oj = true) →
      i ∈ Region.ready md l.toArray listed → YieldsIf P l.toArray S oi v a → S w →
      wpAnyU P md l Q S n f (listed.setIfInBounds i true) (a.put oi.dst v) w → wpAnyU P md l Q S n (f + 1) listed a w := by
  have hi' : l.toArray[i]? = some oi := by simpa using hi
  intro f
  induction f with
  | zero =>
    intro listed a w inv _ hr hy hS H
    refine ⟨fun h => (by rw [h] at hr; cases hr), fun j hj => ?_⟩
    by_cases hji : j = i
    · subst hji
      exact hy.wpOp hi' hS ⟨fun _ => hS, H⟩
    · have := ready_mono hj hji
      rw [H.1] at this
      cases this
  | succ f ih =>
    intro listed a w inv hfree hr hy hS H
    have hun := (mem_ready.1 hr).1
    refine ⟨fun h => (by rw [h] at hr; cases hr), fun j hj => ?_⟩
    by_cases hji : j = i
    · subst hji
      exact hy.wpOp hi' hS ⟨fun _ => hS, H⟩
    · have hjn := last_waits hs hc hn inv hin hun j hj
      have h1 := H.2 j (ready_mono hj hji)
      obtain ⟨hjun, oj, hoj, hall⟩ := mem_ready.1 hj
      have hnot : ∀ e ∈ oj.after, Region.binds md e = true → e.on ≠ i := fun e he hb heq => by
        have h3 := hall e he hb
        rw [heq, getD_both hun] at h3
        cases h3
      have h2 := wpOp_putIf hoj (hfree j oj hoj hji hjun hnot) (fun cs b => hsel i oi cs b hi') (fun cs b => hsel j oj cs b hoj) hQ hy h1
      refine wpOp_mono (fun a' w' h3 => ⟨h3.2.1, ih (listed.setIfInBounds j true) a' w' (inv.set hj hjn) ?_ (ready_mono hr (Ne.symm hji)) h3.1 (h3.2.1 (by omega)) ?_⟩) h2
      · intro k ok hk hki hu hno
        refine hfree k ok hk hki ?_ hno
        by_cases hjk : j = k
        · subst hjk
          exact hjun
        · rw [getD_set_ne true hjk] at hu
          exact hu
      · rw [Array.setIfInBounds_comm _ _ hji]
        exact h3.2.2
/-- The state of a walk through the region: who has come up, and what holds. -/
structure AtU (P : Program) (md : Region.Mode) (l : List Oper) (Q : Exit → Act → World → Prop) (S : World → Prop) (n f : Nat) (listed : Array Bool) (a : Act) (w : World) : Prop where
  go : HeadInv md l.toArray n listed → S w → wpAnyU P md l Q S n f listed a w
/-- What the region is, once. -/
def okU (md : Region.Mode) (l : List Oper) (n : Nat) : Bool := Region.noSelect l.toArray && Region.sinkB md l.toArray n && Region.chainB md l.toArray n && decide (n + 1 = l.length)
theorem AtU.take {i f : Nat} {oi : Oper} {v : Value} {listed : Array Bool} {a : Act} {w : World} (hi : l[i]? = some oi) (hok : okU md l n = true) (hf : (decide (i < n) && Region.free md l.toArray listed i && (Region.ready md l.toArray listed).contains i) = true)
    (hQ : ∀ c a w, Q (.panic c) (a.put oi.dst v) w → Q (.panic c) a w) (hw : Region.wanted oi (yielded l.toArray a.tmps) = true) (hy : ∀ w, S w → (execOp a.eval oi).run P w = .ok (.value v) w)
    (h : AtU P md l Q S n f (listed.setIfInBounds i true) (a.put oi.dst v) w) : AtU P md l Q S n (f + 1) listed a w := by
  simp only [okU, Bool.and_eq_true, decide_eq_true_eq] at hok hf
  obtain ⟨⟨⟨h1, h2⟩, h3⟩, h4⟩ := hok
  obtain ⟨⟨h5, h6⟩, h7⟩ := hf
  have hr : i ∈ Region.ready md l.toArray listed := by simpa using h7
  exact ⟨fun inv hS => wpAnyU_first hi (Region.noSelect_spec h1) h2 h3 h4 h5 hQ f listed a w inv (Region.free_spec (by simpa using hi) h6) hr (.inl ⟨hw, hy⟩) hS (h.go (inv.set hr h5) hS)⟩
/-- One alone may come up. -/
theorem AtU.step {i f : Nat} {o : Oper} {listed : Array Bool} {a : Act} {w : World} (hi : l[i]? = some o) (hr : (decide (Region.ready md l.toArray listed = [i]) && decide (i < n)) = true)
    (h : ∀ K' : Act → World → Prop, Shut (∀ a' w', S w' → AtU P md l Q S n f (listed.setIfInBounds i true) a' w' → K' a' w') → if Region.wanted o (yielded l.toArray a.tmps) = true then Oper.wp P o a w K' Q else K' (a.put o.dst undef) w) : AtU P md l Q S n (f + 1) listed a w := by
  simp only [Bool.and_eq_true, decide_eq_true_eq] at hr
  refine ⟨fun inv hS => ⟨fun h0 => (by rw [hr.1] at h0; cases h0), fun j hj => ?_⟩⟩
  have hjr := hj
  rw [hr.1] at hj
  have : j = i := by simpa using hj
  subst this
  exact wpOp_step (o := o) (by simpa using hi) (fun K' hK => h K' (fun a' w' hS' hA => hK a' w' ⟨fun _ => hS', hA.go (inv.set hjr hr.2) hS'⟩))
/-- The last one. -/
theorem AtU.last {i : Nat} {o : Oper} {listed : Array Bool} {a : Act} {w : World} (hi : l[i]? = some o) (hr : (decide (Region.ready md l.toArray listed = [i]) && (Region.ready md l.toArray (listed.setIfInBounds i true)).isEmpty && decide (i = n)) = true)
    (h : ∀ K' : Act → World → Prop, Shut (∀ a' w', Q .normal a' w' → K' a' w') → if Region.wanted o (yielded l.toArray a.tmps) = true then Oper.wp P o a w K' Q else K' (a.put o.dst undef) w) : AtU P md l Q S n 1 listed a w := by
  simp only [Bool.and_eq_true, decide_eq_true_eq, List.isEmpty_iff] at hr
  refine ⟨fun inv hS => ⟨fun h0 => (by rw [hr.1.1] at h0; cases h0), fun j hj => ?_⟩⟩
  rw [hr.1.1] at hj
  have : j = i := by simpa using hj
  subst this
  exact wpOp_step (o := o) (by simpa using hi) (fun K' hK => h K' (fun a' w' hq => hK a' w' ⟨fun hne => absurd hr.2 hne, hr.1.2, hq⟩))
/-- The beginning. -/
theorem wp_region_U {id : Nat} {a : Act} {w : World} (n : Nat) (S : World → Prop) (hm : P.follows .mixedOrders = true) (hS : S w.drew) (h : AtU P .any l Q S n l.length (Array.replicate l.length false) a w.drew) : (Code.region id l.toArray true).wp P Q a w := by
  refine wp_region_any hm (wpAny_of_U (n := n) (S := S) _ _ _ _ ?_)
  have := h.go ⟨by simp, fun j oj _ hl => (by rw [getD_replicate_false] at hl; cases hl), fun t _ ht => getD_in (by simpa using ht) (getD_replicate_false _ _)⟩ hS
  simpa using this
end
end Go.Proofs.YtghlnknncahkgaaGreat
namespace Go.Proofs.YtghlnknncahkgaaGreat
open Go.RowKit Go.Maps

/-- The body in block x: the soup (n, vT), the paint P', the sides K'. -/
structure BdSt (w1 W : World) (x : Nat) (n : Int) (vT : Value) (P' : List Tr) (K' : List Int) (vP vK : Value) : Prop where
  bx : Blk W x 65 #[.int .i64 n, vT, vP, vK]
  rP : W.ownsRow w1.heap.size 111 3 vP P'.length (ws3 P')
  rK : W.ownsRow w1.heap.size 3 1 vK K'.length (intsV K')
  bel : Below w1.heap.size w1 W
  xle : w1.heap.size ≤ x
section
variable {w1 W W' w4 : World} {x : Nat} {n : Int} {vT : Value} {P' : List Tr} {K' : List Int} {vP vK : Value}
theorem BdSt.below (h : BdSt w1 W x n vT P' K' vP vK) (hb : Below W.heap.size W W') : BdSt w1 W' x n vT P' K' vP vK :=
  ⟨h.bx.below hb h.bx.lt, own_below h.rP hb, own_below h.rK hb, h.bel.trans (hb.mono h.bel.size), h.xle⟩
theorem BdSt.alloc (h : BdSt w1 W x n vT P' K' vP vK) (o : Obj) : BdSt w1 (W.alloc o) x n vT P' K' vP vK := h.below ((Below.refl _ _).alloc (Nat.le_refl _) _)
theorem BdSt.drew (h : BdSt w1 W x n vT P' K' vP vK) : BdSt w1 W.drew x n vT P' K' vP vK := h.below (Below.refl _ _).drew
theorem BdSt.appP (h : BdSt w1 W x n vT P' K' vP vK) (hg : W.grownBy w4 vP.ownBlock) {v4 : Value} {P4 : List Tr} (hr : w4.ownsRow w1.heap.size 111 3 v4 P4.length (ws3 P4)) :
    Blk w4 x 65 #[.int .i64 n, vT, vP, vK] ∧ Below w1.heap.size w1 w4 ∧ BdSt w1 (w4.setCell ⟨x, 2, none⟩ v4) x n vT P4 K' v4 vK := by
  have b4 := h.bx.grown hg (fun e => own_blk_ne h.rP h.bx (by decide) e.symm)
  have hS : w4.grownBy (w4.setCell ⟨x, 2, none⟩ v4) (some x) := gStR (World.grownBy.refl _ _)
  have k4 := h.rK.kept hg (own_own_ne h.rK h.rP (by decide))
  have bel4 := h.bel.grown hg h.bel.size (fun j e => (h.rP.lt j e).1)
  exact ⟨b4, bel4, ⟨by simpa using b4.set_ 2 v4, hr.kept hS (.inr (own_blk_ne hr b4 (by decide))), k4.kept hS (.inr (own_blk_ne k4 b4 (by decide))), bel4.setCell h.xle _, h.xle⟩⟩
theorem BdSt.appK (h : BdSt w1 W x n vT P' K' vP vK) (hg : W.grownBy w4 vK.ownBlock) {v4 : Value} {K4 : List Int} (hr : w4.ownsRow w1.heap.size 3 1 v4 K4.length (intsV K4)) :
    Blk w4 x 65 #[.int .i64 n, vT, vP, vK] ∧ Below w1.heap.size w1 w4 ∧ BdSt w1 (w4.setCell ⟨x, 3, none⟩ v4) x n vT P' K4 vP v4 := by
  have b4 := h.bx.grown hg (fun e => own_blk_ne h.rK h.bx (by decide) e.symm)
  have hS : w4.grownBy (w4.setCell ⟨x, 3, none⟩ v4) (some x) := gStR (World.grownBy.refl _ _)
  have p4 := h.rP.kept hg (own_own_ne h.rP h.rK (by decide))
  have bel4 := h.bel.grown hg h.bel.size (fun j e => (h.rK.lt j e).1)
  exact ⟨b4, bel4, ⟨by simpa using b4.set_ 3 v4, p4.kept hS (.inr (own_blk_ne p4 b4 (by decide))), hr.kept hS (.inr (own_blk_ne hr b4 (by decide))), bel4.setCell h.xle _, h.xle⟩⟩
end
theorem fourH {w : World} {b : Nat} {t : TypeId} {x0 x1 x2 x3 : Value} (h : Blk w b t #[x0, x1, x2, x3]) : b < w.heap.size ∧ w.cell? ⟨b, 0, none⟩ = some x0 ∧ w.frozen? ⟨b, 0, none⟩ = false ∧ w.cell? ⟨b, 1, none⟩ = some x1 ∧ w.frozen? ⟨b, 1, none⟩ = false ∧ w.cell? ⟨b, 2, none⟩ = some x2 ∧ w.frozen? ⟨b, 2, none⟩ = false ∧ w.cell? ⟨b, 3, none⟩ = some x3 ∧ w.frozen? ⟨b, 3, none⟩ = false :=
  ⟨h.lt, h.cell 0, h.frozen 0, h.cell 1, h.frozen 1, h.cell 2, h.frozen 2, h.cell 3, h.frozen 3⟩
theorem fin_body {w0 w : World} {B B1 B2 r nT nP nK : Nat} {x0 x1 x2 x3 vT vP vK : Value} {ts ps ks : List Value} (hr : Blk w r 65 #[x0, x1, x2, x3]) (hT : w.ownsRow B1 72 3 vT nT ts) (hP : w.ownsRow B2 111 3 vP nP ps) (hK : w.ownsRow B2 3 1 vK nK ks) (hb : Below B w0 w) (hB : B ≤ r) (u0 u1 u2 u3 : Value) :
    Blk ((((w.setCell ⟨r, 0, none⟩ u0).setCell ⟨r, 1, none⟩ u1).setCell ⟨r, 2, none⟩ u2).setCell ⟨r, 3, none⟩ u3) r 65 #[u0, u1, u2, u3] ∧
    ((((w.setCell ⟨r, 0, none⟩ u0).setCell ⟨r, 1, none⟩ u1).setCell ⟨r, 2, none⟩ u2).setCell ⟨r, 3, none⟩ u3).ownsRow B1 72 3 vT nT ts ∧
    ((((w.setCell ⟨r, 0, none⟩ u0).setCell ⟨r, 1, none⟩ u1).setCell ⟨r, 2, none⟩ u2).setCell ⟨r, 3, none⟩ u3).ownsRow B2 111 3 vP nP ps ∧
    ((((w.setCell ⟨r, 0, none⟩ u0).setCell ⟨r, 1, none⟩ u1).setCell ⟨r, 2, none⟩ u2).setCell ⟨r, 3, none⟩ u3).ownsRow B2 3 1 vK nK ks ∧
    Below B w0 ((((w.setCell ⟨r, 0, none⟩ u0).setCell ⟨r, 1, none⟩ u1).setCell ⟨r, 2, none⟩ u2).setCell ⟨r, 3, none⟩ u3) := by
  have s1 := hr.set_ 0 u0
  have s2 := s1.set_ 1 u1
  have s3 := s2.set_ 2 u2
  have s4 := s3.set_ 3 u3
  exact ⟨by simpa using s4, own_alloc_st (own_alloc_st (own_alloc_st (own_alloc_st hT hr (by decide)) s1 (by decide)) s2 (by decide)) s3 (by decide),
    own_alloc_st (own_alloc_st (own_alloc_st (own_alloc_st hP hr (by decide)) s1 (by decide)) s2 (by decide)) s3 (by decide),
    own_alloc_st (own_alloc_st (own_alloc_st (own_alloc_st hK hr (by decide)) s1 (by decide)) s2 (by decide)) s3 (by decide),
    (((hb.setCell (p := ⟨r, 0, none⟩) hB _).setCell (p := ⟨r, 1, none⟩) hB _).setCell (p := ⟨r, 2, none⟩) hB _).setCell (p := ⟨r, 3, none⟩) hB _⟩
set_option maxRecDepth 100000 in
set_option maxHeartbeats 4000000 in
theorem bodied_any (N : Int) (vB vP vK : Value) (T P : List Tr) (K : List Int) (c : Nat) (w : World) (hT : TrisRd w vB T) (hP : TrisRd w vP P) (hK : IntsRd w vK K) (hc : c < 3 * T.length) (hl : T.length ≤ 1000)
    (hPl : (P.length : Int) = N) (hKl : K ≠ [] → K.length = 3 * T.length) (hIn : ∀ d, d < 3 * T.length → inR N (vertN T d)) :
    Calls Tryz.prog 63 #[.agg #[.int .i64 N, vB, vP, vK], .int .i64 (c : Int)] w fun e w' => ∃ vT' vP' vK', e = .returned (.agg #[.int .i64 (fromM T P K c).N, vT', vP', vK']) ∧
      w'.ownsRow w.heap.size 72 3 vT' (fromM T P K c).T.length (ws3 (fromM T P K c).T) ∧ w'.ownsRow w.heap.size 111 3 vP' (fromM T P K c).P.length (ws3 (fromM T P K c).P) ∧ w'.ownsRow w.heap.size 3 1 vK' (fromM T P K c).K.length (intsV (fromM T P K c).K) ∧ Below w.heap.size w w' := by
  have HPr := Lib.hid (fun (W : World) (hW : Below w.heap.size w W) => hP.below hW)
  have HKr := Lib.hid (fun (W : World) (hW : Below w.heap.size w W) => hK.below hW)
  have HRt := Lib.hid (fun (W : World) (hW : Below w.heap.size w W) => rooted46_any N c vB T W (hT.below hW) hc hl)
  have HIn := Lib.hid hIn
  obtain ⟨aB, cB, rfl, -⟩ := hT
  obtain ⟨aP, cP, rfl, hcP, hcP2, -⟩ := hP
  obtain ⟨aK, cK, rfl, hcK, -⟩ := hK
  obtain ⟨nP, hnP⟩ : ∃ nP, P.length = nP := ⟨_, rfl⟩
  obtain ⟨nK, hnK⟩ : ∃ nK, K.length = nK := ⟨_, rfl⟩
  obtain ⟨nB, hnB⟩ : ∃ nB, T.length = nB := ⟨_, rfl⟩
  rw [hnP] at hcP HPr hPl ⊢
  rw [hnK] at hcK HKr hKl ⊢
  rw [hnB] at HRt hl ⊢
  have HnP := Lib.hid hnP
  have HnK := Lib.hid hnK
  have HnB := Lib.hid hnB
  clear hnP hnK hnB hIn
  have hB0 : Below w.heap.size w ((w.alloc (.cells #[.int .i64 N, .slice aB nB cB, .slice aP nP cP, .slice aK nK cK] 65)).alloc (.cells #[.int .i64 0, .slice none 0 0, .slice none 0 0, .slice none 0 0] 65)) := ((Below.refl _ _).alloc (Nat.le_refl _) _).alloc (by simp) _
  have bb := (Blk.new w 65 #[.int .i64 N, .slice aB nB cB, .slice aP nP cP, .slice aK nK cK]).alloc (.cells #[.int .i64 0, .slice none 0 0, .slice none 0 0, .slice none 0 0] 65)
  have br : Blk ((w.alloc (.cells #[.int .i64 N, .slice aB nB cB, .slice aP nP cP, .slice aK nK cK] 65)).alloc (.cells #[.int .i64 0, .slice none 0 0, .slice none 0 0, .slice none 0 0] 65)) (w.heap.size + 1) 65 #[.int .i64 0, .slice none 0 0, .slice none 0 0, .slice none 0 0] := blk_new_at (by simp)
  have HR := Lib.hid (HRt.out _ hB0)
  obtain ⟨hn2, hn3, hn4⟩ := rtN_lens hc
  have HN2 := Lib.hid hn2
  have HPl := Lib.hid hPl
  have HKl := Lib.hid hKl
  have HB := Lib.hid hB0
  have HBb := Lib.hid bb
  have HBr := Lib.hid br
  obtain ⟨lb, b0, b1, b2, b3⟩ := fourF bb
  rw [HnB.out] at hn3 hn4
  clear hB0 hPl hKl bb br hn2 HRt
  go_enter Tryz.func63, Tryz.ntmps63
  go_upto_region 2 with (go_at_call 14; go_loud (with_reducible refine HR.out.mono ?_; rintro e w1 ⟨vT, vO, vC, rfl, hrT, hrO, hrC, hb1⟩; obtain ⟨aT, cT, rfl⟩ := ownsRow_slice hrT; obtain ⟨aO, cO, rfl⟩ := ownsRow_slice hrO; obtain ⟨aC, cC, rfl⟩ := ownsRow_slice hrC))
  obtain ⟨nT, hnT⟩ : ∃ nT, (rtN T c).2.length = nT := ⟨_, rfl⟩
  obtain ⟨nO, hnO⟩ : ∃ nO, (rtN T c).1.length = nO := ⟨_, rfl⟩
  obtain ⟨nC, hnC⟩ : ∃ nC, (rtL T c).length = nC := ⟨_, rfl⟩
  have hn2 := HN2.out
  rw [hnT] at hrT hn2 ⊢
  rw [hnO] at hrO hn4 ⊢
  rw [hnC] at hrC hn2 hn3 ⊢
  have HB1 := Lib.hid hb1
  have HrT := Lib.hid hrT
  have HrO := Lib.hid hrO
  have HrC := Lib.hid hrC
  have HnT := Lib.hid hnT
  have HnO := Lib.hid hnO
  have HnC := Lib.hid hnC
  have hz1 : w.heap.size ≤ w1.heap.size := (HB.out.trans (hb1.mono HB.out.size)).size
  have HB1b := Lib.hid (HB.out.trans (hb1.mono HB.out.size))
  have HBb1 := Lib.hid (HBb.out.below hb1 HBb.out.lt)
  have HBr1 := Lib.hid (HBr.out.below hb1 HBr.out.lt)
  have hB2 : Below w1.heap.size w1 ((w1.alloc (.cells #[.int .i64 (nO : Int), .slice aT nT cT] 24)).alloc (.cells #[.int .i64 (nO : Int), .slice aT nT cT, .slice none 0 0, .slice none 0 0] 65)) := ((Below.refl _ _).alloc (Nat.le_refl _) _).alloc (by simp) _
  have HI0 := Lib.hid (show BdSt w1 ((w1.alloc (.cells #[.int .i64 (nO : Int), .slice aT nT cT] 24)).alloc (.cells #[.int .i64 (nO : Int), .slice aT nT cT, .slice none 0 0, .slice none 0 0] 65)) (w1.heap.size + 1) (nO : Int) (.slice aT nT cT) (paintF P ((rtN T c).1.take 0)) [] (.slice none 0 0) (.slice none 0 0) from
    ⟨blk_new_at (by simp), World.ownsRow_nil _ _ _ _, World.ownsRow_nil _ _ _ _, hB2, by omega⟩)
  have HnTC := Lib.hid hn2
  obtain ⟨i2, hj2, hz0', hz1', hz2'⟩ := info_parts infoInt
  obtain ⟨i3, hj3, hy0, hy1, hy2⟩ := info_parts infoPt
  clear hrT hrO hrC hb1 hnT hnO hnC hB2 lb b0 b1 b2 b3 hn2
  go_wp2
  go_loopw [9] (fun i wr => ∃ k : Nat, k ≤ nO ∧ i = .int .i64 k ∧ ∃ vP, BdSt w1 wr (w1.heap.size + 1) (nO : Int) (.slice aT nT cT) (paintF P ((rtN T c).1.take k)) [] vP (.slice none 0 0)) (fun i _ => nO - (intOf i).toNat)
  case atStart => exact ⟨0, Nat.zero_le _, rfl, _, HI0.out⟩
  case round =>
    clear HI0
    rename World => wr
    obtain ⟨k, hk, rfl, vP', hI⟩ := hrel
    by_cases hlt : k < nO
    · have hkO : k < (rtN T c).1.length := by rw [HnO.out]; exact hlt
      obtain ⟨d, hd1, hd2⟩ := rtN_in hc (List.getElem_mem hkO)
      have hb9 := hI.bel
      have hrO := own_below HrO.out hb9
      obtain ⟨gO, capO, eO, -, -⟩ := hrO.form (by omega)
      cases eO
      obtain ⟨vn, hvn⟩ : ∃ vn : Nat, (rtN T c).1[k] = (vn : Int) := ⟨((rtN T c).1[k]).toNat, by have h9 := HIn.out d hd1; rw [hd2]; unfold inR at h9; omega⟩
      have hvP : vn < nP := by have h9 := HIn.out d hd1; have h8 := HPl.out; unfold inR at h9; omega
      have hcO : ∀ W : World, Below w1.heap.size w1 W → W.cell? ⟨gO, k, none⟩ = some (.int .i64 (vn : Int)) := by
        intro W hW
        rw [(own_below HrO.out hW).cellAt k (by omega)]
        unfold intsV
        rw [List.getElem?_map, List.getElem?_eq_getElem hkO, hvn]
        rfl
      obtain ⟨⟨px, py, pz⟩, hp⟩ : ∃ q, P[vn]? = some q := ⟨P[vn]'(by rw [HnP.out]; exact hvP), List.getElem?_eq_getElem _⟩
      have hPr := HPr.out wr (HB1b.out.trans (hb9.mono HB1b.out.size))
      obtain ⟨a', c', e', -, -, hr3⟩ := hPr
      rw [HnP.out] at e'
      cases e'
      obtain ⟨bP, oP, e2, -⟩ := hr3 vn px py pz hp
      subst e2
      have hcP9 : ∀ W : World, Below w1.heap.size w1 W → W.cell? ⟨bP, oP + vn * 3, none⟩ = some (.int .i64 px) ∧ W.cell? ⟨bP, oP + vn * 3 + 1, none⟩ = some (.int .i64 py) ∧ W.cell? ⟨bP, oP + vn * 3 + 2, none⟩ = some (.int .i64 pz) := by
        intro W hW
        obtain ⟨a', c', e', -, -, hr3⟩ := HPr.out W (HB1b.out.trans (hW.mono HB1b.out.size))
        rw [HnP.out] at e'
        cases e'
        obtain ⟨bP', oP', e2, -, s0, s1, s2⟩ := hr3 vn px py pz hp
        cases e2
        exact ⟨s0, s1, s2⟩
      have HCl := Lib.hid (fun (W : World) (hW : Below w1.heap.size w1 W) => And.intro ((HBb1.out.below hW HBb1.out.lt).cell 2) (And.intro (hcO W hW) (hcP9 W hW)))
      have HTk := Lib.hid (paintF_take (P := P) (old := (rtN T c).1) (k := k) (v := (vn : Int)) (by rw [List.getElem?_eq_getElem hkO, hvn]))
      have Hp := Lib.hid (show P.getD ((vn : Int)).toNat (0, 0, 0) = (px, py, pz) from by simp [List.getD, hp])
      obtain ⟨Pk, hPk⟩ : ∃ Pk, paintF P ((rtN T c).1.take k) = Pk := ⟨_, rfl⟩
      have hlk : Pk.length = k := by rw [← hPk, paintF_len, List.length_take, HnO.out]; omega
      rw [hPk] at hI HTk
      rw [Hp.out] at HTk
      obtain ⟨lx, y0, f0, y1, f1, y2, f2, y3, f3⟩ := fourH hI.bx
      obtain ⟨q0, q1, q2, q3, q4⟩ := HCl.out wr hb9
      have hvP' : (vn : Int) < (nP : Int) := by omega
      have hz9 := hb9.size
      have HI := Lib.hid hI
      have hki : (k : Int) < (nO : Int) := by omega
      have Hlk := Lib.hid hlk
      have c9 : Pk.length + 1 ≤ maxLen := by unfold maxLen; omega
      have c8 : (Pk.length + 1) * 24 ≤ 140737488355328 := by omega
      have HIa := Lib.hid (hI.alloc (.cells #[.int .i64 px, .int .i64 py, .int .i64 pz] 111)).drew
      have HNa := Lib.hid (show ∀ (j : Nat) (u : Value), [Value.int .i64 px, .int .i64 py, .int .i64 pz][j]? = some u → (wr.alloc (.cells #[.int .i64 px, .int .i64 py, .int .i64 pz] 111)).drew.cell? ((⟨wr.heap.size, 0, none⟩ : Addr).add j) = some u from World.news_of_block (Blk.new wr _ _).drew)
      clear hI hrO hd2 hd1 hPk hp hr3 hb9 hvn hkO hcO hcP9 hlk
      go_upto_region 6 with fail
      refine wp_region_noPanic ?_
      refine wp_region_U 13 (fun w' => w'.cell? ⟨w1.heap.size + 1, 2, none⟩ = some vP' ∧ w'.cell? ⟨w.heap.size, 2, none⟩ = some (.slice (some ⟨bP, oP, none⟩) nP cP) ∧ w'.cell? ⟨gO, k, none⟩ = some (.int .i64 (vn : Int)) ∧ w'.cell? ⟨bP, oP + vn * 3, none⟩ = some (.int .i64 px) ∧ w'.cell? ⟨bP, oP + vn * 3 + 1, none⟩ = some (.int .i64 py) ∧ w'.cell? ⟨bP, oP + vn * 3 + 2, none⟩ = some (.int .i64 pz)) (by kernel_rfl) ⟨HI.out.drew.bx.cell 2, HCl.out _ HI.out.drew.bel⟩ ?_
      change AtU _ _ _ _ _ _ 14 (Array.replicate 14 false) _ _
      refine AtU.take (i := 0) (v := ?_) rfl (by kernel_rfl) (by kernel_rfl) (fun _ _ _ h => h) (by rfl) ?_ ?_
      rotate_left 1
      · intro w9 hSw; (try dsimp only at hSw); go_simp; try with_reducible rfl
      try simp only [Act.put, List.setIfInBounds_toArray, List.set_cons_zero, List.set_cons_succ]
      refine AtU.take (i := 1) (v := ?_) rfl (by kernel_rfl) (by kernel_rfl) (fun _ _ _ h => h) (by rfl) ?_ ?_
      rotate_left 1
      · intro w9 hSw; (try dsimp only at hSw); go_simp; try with_reducible rfl
      try simp only [Act.put, List.setIfInBounds_toArray, List.set_cons_zero, List.set_cons_succ]
      refine AtU.take (i := 2) (v := ?_) rfl (by kernel_rfl) (by kernel_rfl) (fun _ _ _ h => h) (by rfl) ?_ ?_
      rotate_left 1
      · intro w9 hSw; (try dsimp only at hSw); go_simp; try with_reducible rfl
      try simp only [Act.put, List.setIfInBounds_toArray, List.set_cons_zero, List.set_cons_succ]
      refine AtU.take (i := 3) (v := ?_) rfl (by kernel_rfl) (by kernel_rfl) (fun _ _ _ h => h) (by rfl) ?_ ?_
      rotate_left 1
      · intro w9 hSw; (try dsimp only at hSw); go_simp; try with_reducible rfl
      try simp only [Act.put, List.setIfInBounds_toArray, List.set_cons_zero, List.set_cons_succ]
      refine AtU.take (i := 4) (v := ?_) rfl (by kernel_rfl) (by kernel_rfl) (fun _ _ _ h => h) (by rfl) ?_ ?_
      rotate_left 1
      · intro w9 hSw; (try dsimp only at hSw); go_simp; try with_reducible rfl
      try simp only [Act.put, List.setIfInBounds_toArray, List.set_cons_zero, List.set_cons_succ]
      refine AtU.take (i := 5) (v := ?_) rfl (by kernel_rfl) (by kernel_rfl) (fun _ _ _ h => h) (by rfl) ?_ ?_
      rotate_left 1
      · intro w9 hSw; (try dsimp only at hSw); go_simp; try with_reducible rfl
      try simp only [Act.put, List.setIfInBounds_toArray, List.set_cons_zero, List.set_cons_succ]
      refine AtU.take (i := 6) (v := ?_) rfl (by kernel_rfl) (by kernel_rfl) (fun _ _ _ h => h) (by rfl) ?_ ?_
      rotate_left 1
      · intro w9 hSw; (try dsimp only at hSw); go_simp; try with_reducible rfl
      try simp only [Act.put, List.setIfInBounds_toArray, List.set_cons_zero, List.set_cons_succ]
      refine AtU.take (i := 7) (v := ?_) rfl (by kernel_rfl) (by kernel_rfl) (fun _ _ _ h => h) (by rfl) ?_ ?_
      rotate_left 1
      · intro w9 hSw; (try dsimp only at hSw); go_simp; try with_reducible rfl
      try simp only [Act.put, List.setIfInBounds_toArray, List.set_cons_zero, List.set_cons_succ]
      refine AtU.take (i := 8) (v := ?_) rfl (by kernel_rfl) (by kernel_rfl) (fun _ _ _ h => h) (by rfl) ?_ ?_
      rotate_left 1
      · intro w9 hSw; (try dsimp only at hSw); go_simp; try with_reducible rfl
      try simp only [Act.put, List.setIfInBounds_toArray, List.set_cons_zero, List.set_cons_succ]
      refine AtU.take (i := 9) (v := ?_) rfl (by kernel_rfl) (by kernel_rfl) (fun _ _ _ h => h) (by rfl) ?_ ?_
      rotate_left 1
      · intro w9 hSw; (try dsimp only at hSw); go_simp; try with_reducible rfl
      try simp only [Act.put, List.setIfInBounds_toArray, List.set_cons_zero, List.set_cons_succ]
      refine AtU.step (i := 10) rfl (by kernel_rfl) (fun K hK => ?_)
      go_simp
      refine hK.out _ _ ⟨HIa.out.bx.cell 2, HCl.out _ HIa.out.bel⟩ ?_
      clear hK K
      try simp only [Act.put, List.setIfInBounds_toArray, List.set_cons_zero, List.set_cons_succ]
      refine AtU.step (i := 11) rfl (by kernel_rfl) (fun K hK => ?_)
      refine step_append_lies (wr.alloc (.cells #[.int .i64 px, .int .i64 py, .int .i64 pz] 111)).drew (by rfl) (.tmp 28) (.tmp 37) 63 (by rfl) w1.heap.size 111 i3 _ 3 24 Tryz.underlying63 hj3 hy0 hy1 hy2 (by rfl) (by decide) vP' Pk.length (ws3 Pk) (by rfl) HIa.out.rP ⟨wr.heap.size, 0, none⟩ 1 1 [.int .i64 px, .int .i64 py, .int .i64 pz] (by rfl) (by rfl) HNa.out (by simp [Value.oneCell']) (by decide) c9 c8 (by have := HIa.out.bel.size; exact this) _ rfl ?_
      intro g8 cap8 W8 hr8 hg8 hat8 hlt8
      have h9 := HIa.out.appP hg8 (P4 := Pk ++ [(px, py, pz)]) (v4 := .slice (some ⟨g8, 0, none⟩) (Pk.length + 1) cap8) (by rw [ws3_snoc, List.length_append]; exact hr8)
      obtain ⟨lx8, z0, g0, z1, g1, z2, g2, z3, g3⟩ := fourH h9.1
      have HF8 := Lib.hid h9.2.2
      refine hK.out _ _ ⟨h9.1.cell 2, HCl.out _ h9.2.1⟩ ?_
      clear hK K
      try simp only [Act.put, List.setIfInBounds_toArray, List.set_cons_zero, List.set_cons_succ]
      clear hr8 hg8 hat8 hlt8 h9
      refine AtU.take (i := 12) (v := ?_) rfl (by kernel_rfl) (by kernel_rfl) (fun _ _ _ h => h) (by rfl) ?_ ?_
      rotate_left 1
      · intro w9 hSw; (try dsimp only at hSw); go_simp; try with_reducible rfl
      try simp only [Act.put, List.setIfInBounds_toArray, List.set_cons_zero, List.set_cons_succ]
      refine AtU.last (i := 13) rfl (by kernel_rfl) (fun K hK => ?_)
      go_simp
      refine hK.out _ _ ?_
      clear hK K
      refine NoPanic.normal ?_
      clear y0 f0 y1 f1 y2 f2 y3 f3 z0 g0 z1 g1 z2 g2 z3 g3 q0 q1 q2 q3 q4
      go_wp2
      go_roundw
      case measure => simp [intOf]; omega
      case rel => exact ⟨k + 1, by omega, by go_num, _, by rw [HTk.out]; exact HF8.out⟩
    · obtain rfl : k = nO := by omega
      have HP0 := Lib.hid (show P ≠ [] from by
        intro e
        have h9 := HIn.out c hc
        have h8 := HPl.out
        have h7 := HnP.out
        rw [e] at h7
        unfold inR at h9
        simp at h7
        omega)
      have hI2 : BdSt w1 wr (w1.heap.size + 1) (k : Int) (.slice aT nT cT) (paintL P (rtN T c).1) [] vP' (.slice none 0 0) := by
        have e : paintL P (rtN T c).1 = paintF P ((rtN T c).1.take k) := by unfold paintL; rw [if_neg HP0.out, List.take_of_length_le (by rw [HnO.out]; exact Nat.le_refl _)]
        rw [e]
        exact hI
      clear hI
      obtain ⟨lb, b0, b1, b2, b3⟩ := fourF (HBb1.out.below hI2.bel HBb1.out.lt)
      by_cases hK0 : K = []
      · have h0 : nK = 0 := by rw [← HnK.out, hK0]; rfl
        subst h0
        have hI3 : BdSt w1 wr (w1.heap.size + 1) (k : Int) (.slice aT nT cT) (paintL P (rtN T c).1) (sideL K (rtL T c)) vP' (.slice none 0 0) := by
          have e : sideL K (rtL T c) = [] := by unfold sideL; rw [if_pos hK0]
          rw [e]
          exact hI2
        clear hI2 hK0
        obtain ⟨aP9, cP9, rfl⟩ := ownsRow_slice hI3.rP
        obtain ⟨lx, y0, f0, y1, f1, y2, f2, y3, f3⟩ := fourH hI3.bx
        have hBr9 := HBr1.out.below hI3.bel HBr1.out.lt
        obtain ⟨lr, z0, g0, z1, g1, z2, g2, z3, g3⟩ := fourH hBr9
        have s1 := hBr9.set_ 0 (.int .i64 (k : Int))
        have s2 := s1.set_ 1 (.slice aT nT cT)
        have s3 := s2.set_ 2 (.slice aP9 (paintL P (rtN T c).1).length cP9)
        have s4 := s3.set_ 3 (.slice none 0 0)
        have HF := Lib.hid (fin_body hBr9 (own_below HrT.out hI3.bel) hI3.rP hI3.rK (HB1b.out.trans (hI3.bel.mono hz1)) (Nat.le_succ _) (.int .i64 (k : Int)) (.slice aT nT cT) (.slice aP9 (paintL P (rtN T c).1).length cP9) (.slice none 0 0))
        have hxr : w1.heap.size + 1 ≠ w.heap.size + 1 := by have := HBr.out.lt; have := HB1.out.size; omega
        have HE := Lib.hid (And.intro HnT.out (And.intro HnO.out HB1b.out))
        clear hBr9 s1 s2 s3 s4 hI3
        go_wp2
        obtain ⟨hb9, hT9, hP9, hK9, hbel⟩ := HF.out
        obtain ⟨-, p0, -, p1, -, p2, -, p3, -⟩ := fourH hb9
        refine bodyPost_ret (v := .agg #[.int .i64 (k : Int), .slice aT nT cT, .slice aP9 (paintL P (rtN T c).1).length cP9, .slice none 0 0]) (by simp [results, Tryz.results63, go_sem, p0, p1, p2, p3]) rfl ?_
        refine ⟨.slice aT nT cT, .slice aP9 (paintL P (rtN T c).1).length cP9, .slice none 0 0, ?_, ?_, own_lower hP9 hz1, own_lower hK9 hz1, hbel⟩
        · show _ = Ending.returned (.agg #[.int .i64 ((rtN T c).1.length : Int), _, _, _])
          rw [HnO.out]
        · show World.ownsRow _ _ _ _ _ (rtN T c).2.length (ws3 (rtN T c).2)
          rw [HnT.out]
          exact own_lower hT9 HB.out.size
      · have hk0 : 0 < nK := by rw [← HnK.out]; exact List.length_pos_iff.2 hK0
        have hKN := HKl.out hK0
        rw [HnB.out] at hKN
        have HKN := Lib.hid hKN
        have HK0 := Lib.hid hK0
        have hdT : decide (0 < nK) = true := by simpa using hk0
        have HI0 := Lib.hid (show BdSt w1 wr (w1.heap.size + 1) (k : Int) (.slice aT nT cT) (paintL P (rtN T c).1) (sideF K ((rtL T c).take 0)) vP' (.slice none 0 0) from hI2)
        obtain ⟨lx, y0, f0, y1, f1, y2, f2, y3, f3⟩ := fourH hI2.bx
        clear hI2 hK0 hKN
        go_upto_region 8 with fail
        go_wp2
        clear y0 f0 y1 f1 y2 f2 y3 f3 lx b0 b1 b2 b3 lb hk0 hdT
        go_loopw [10] (fun i wx => ∃ j : Nat, j ≤ nC ∧ i = .int .i64 (j : Int) ∧ ∃ vK, BdSt w1 wx (w1.heap.size + 1) (k : Int) (.slice aT nT cT) (paintL P (rtN T c).1) (sideF K ((rtL T c).take j)) vP' vK) (fun i _ => nC - (intOf i).toNat)
        case atStart => exact ⟨0, Nat.zero_le _, rfl, _, HI0.out⟩
        case round =>
          clear HI0
          rename World => wx
          obtain ⟨j, hj, rfl, vK', hI⟩ := hrel
          by_cases hlt : j < nC
          · have hjC : j < (rtL T c).length := by rw [HnC.out]; exact hlt
            obtain ⟨d, hd⟩ : ∃ d, (rtL T c)[j] = d := ⟨_, rfl⟩
            have hdl : d < 3 * nB := by rw [← hd, ← HnB.out]; exact (LOk.rtL hc).lt _ (List.getElem_mem hjC)
            have hb9 := hI.bel
            have hrC := own_below HrC.out hb9
            obtain ⟨gC, capC, eC, -, -⟩ := hrC.form (by omega)
            cases eC
            have hcC : ∀ W : World, Below w1.heap.size w1 W → W.cell? ⟨gC, j, none⟩ = some (.int .i64 (d : Int)) := by
              intro W hW
              rw [(own_below HrC.out hW).cellAt j (by omega)]
              unfold intsV nats
              rw [List.getElem?_map, List.getElem?_map, List.getElem?_eq_getElem hjC, hd]
              rfl
            have hKr := HKr.out wx (HB1b.out.trans (hb9.mono HB1b.out.size))
            obtain ⟨a', c', e', -, hr3⟩ := hKr
            rw [HnK.out] at e'
            cases e'
            have hn1 : Jor.nx d < nK := by rw [HKN.out]; exact nx_lt3 hdl
            have hn2 : Jor.pv d < nK := by rw [HKN.out]; exact pv_lt3 hdl
            have hn0 : d < nK := by rw [HKN.out]; exact hdl
            have hgt : ∀ e : Nat, e < nK → K[e]? = some (K.getD e 0) := fun e he => by
              have he' : e < K.length := by rw [HnK.out]; exact he
              rw [List.getElem?_eq_getElem he']
              simp [List.getD, List.getElem?_eq_getElem he']
            obtain ⟨bK, oK, e2, -⟩ := hr3 d _ (hgt d hn0)
            subst e2
            have hcK9 : ∀ W : World, Below w1.heap.size w1 W → ∀ e : Nat, e < nK → W.cell? ⟨bK, oK + e, none⟩ = some (.int .i64 (K.getD e 0)) := by
              intro W hW e he
              obtain ⟨a', c', e', -, hr3⟩ := HKr.out W (HB1b.out.trans (hW.mono HB1b.out.size))
              rw [HnK.out] at e'
              cases e'
              obtain ⟨bK', oK', e2, -, s0⟩ := hr3 e _ (hgt e he)
              cases e2
              exact s0
            have HTk := Lib.hid (sideF_take (K := K) (L := rtL T c) (k := j) (d := d) (by rw [List.getElem?_eq_getElem hjC, hd]))
            have HCl := Lib.hid (fun (W : World) (hW : Below w1.heap.size w1 W) => And.intro ((HBb1.out.below hW HBb1.out.lt).cell 3) (And.intro (hcC W hW) (And.intro (hcK9 W hW d hn0) (And.intro (hcK9 W hW _ hn1) (hcK9 W hW _ hn2)))))
            generalize K.getD d 0 = x0 at HTk HCl
            generalize K.getD (Jor.nx d) 0 = x1 at HTk HCl
            generalize K.getD (Jor.pv d) 0 = x2 at HTk HCl
            obtain ⟨Kk, hKk⟩ : ∃ Kk, sideF K ((rtL T c).take j) = Kk := ⟨_, rfl⟩
            have hlk : Kk.length = 3 * j := by rw [← hKk, sideF_len, List.length_take, HnC.out]; omega
            rw [hKk] at hI HTk
            obtain ⟨lx, y0, f0, y1, f1, y2, f2, y3, f3⟩ := fourH hI.bx
            have hz9 := hb9.size
            have HI := Lib.hid hI
            have hji : (j : Int) < (nC : Int) := by omega
            have Hlk := Lib.hid hlk
            have c9 : Kk.length + 3 ≤ maxLen := by unfold maxLen; omega
            have c8 : (Kk.length + 3) * 8 ≤ 140737488355328 := by omega
            have hn0i : (d : Int) < (nK : Int) := by omega
            have hn1i : ((Jor.nx d : Nat) : Int) < (nK : Int) := by omega
            have hn2i : ((Jor.pv d : Nat) : Int) < (nK : Int) := by omega
            have HIa := Lib.hid (hI.alloc (.cells #[.int .i64 x0, .int .i64 x1, .int .i64 x2] 3)).drew
            have HNa := Lib.hid (show ∀ (j : Nat) (u : Value), [Value.int .i64 x0, .int .i64 x1, .int .i64 x2][j]? = some u → (wx.alloc (.cells #[.int .i64 x0, .int .i64 x1, .int .i64 x2] 3)).drew.cell? ((⟨wx.heap.size, 0, none⟩ : Addr).add j) = some u from World.news_of_block (Blk.new wx _ _).drew)
            have HNx := Lib.hid (fun W => next10_any d W (by omega))
            have HPv := Lib.hid (fun W => prev10_any d W (by omega))
            clear hI hrC hKk hr3 hb9 hd hjC hcC hcK9 hgt hlk
            go_upto_region 11 with fail
            refine wp_region_noPanic ?_
            refine wp_region_U 31 (fun w' => w'.cell? ⟨w1.heap.size + 1, 3, none⟩ = some vK' ∧ w'.cell? ⟨w.heap.size, 3, none⟩ = some (.slice (some ⟨bK, oK, none⟩) nK cK) ∧ w'.cell? ⟨gC, j, none⟩ = some (.int .i64 (d : Int)) ∧ w'.cell? ⟨bK, oK + d, none⟩ = some (.int .i64 x0) ∧ w'.cell? ⟨bK, oK + Jor.nx d, none⟩ = some (.int .i64 x1) ∧ w'.cell? ⟨bK, oK + Jor.pv d, none⟩ = some (.int .i64 x2)) (by kernel_rfl) ⟨HI.out.drew.bx.cell 3, HCl.out _ HI.out.drew.bel⟩ ?_
            change AtU _ _ _ _ _ _ 32 (Array.replicate 32 false) _ _
            refine AtU.take (i := 0) (v := ?_) rfl (by kernel_rfl) (by kernel_rfl) (fun _ _ _ h => h) (by rfl) ?_ ?_
            rotate_left 1
            · intro w9 hSw; (try dsimp only at hSw); go_simp; try with_reducible rfl
            try simp only [Act.put, List.setIfInBounds_toArray, List.set_cons_zero, List.set_cons_succ]
            refine AtU.take (i := 1) (v := ?_) rfl (by kernel_rfl) (by kernel_rfl) (fun _ _ _ h => h) (by rfl) ?_ ?_
            rotate_left 1
            · intro w9 hSw; (try dsimp only at hSw); go_simp; try with_reducible rfl
            try simp only [Act.put, List.setIfInBounds_toArray, List.set_cons_zero, List.set_cons_succ]
            refine AtU.take (i := 2) (v := ?_) rfl (by kernel_rfl) (by kernel_rfl) (fun _ _ _ h => h) (by rfl) ?_ ?_
            rotate_left 1
            · intro w9 hSw; (try dsimp only at hSw); go_simp; try with_reducible rfl
            try simp only [Act.put, List.setIfInBounds_toArray, List.set_cons_zero, List.set_cons_succ]
            refine AtU.take (i := 3) (v := ?_) rfl (by kernel_rfl) (by kernel_rfl) (fun _ _ _ h => h) (by rfl) ?_ ?_
            rotate_left 1
            · intro w9 hSw; (try dsimp only at hSw); go_simp; try with_reducible rfl
            try simp only [Act.put, List.setIfInBounds_toArray, List.set_cons_zero, List.set_cons_succ]
            refine AtU.take (i := 4) (v := ?_) rfl (by kernel_rfl) (by kernel_rfl) (fun _ _ _ h => h) (by rfl) ?_ ?_
            rotate_left 1
            · intro w9 hSw; (try dsimp only at hSw); go_simp; try with_reducible rfl
            try simp only [Act.put, List.setIfInBounds_toArray, List.set_cons_zero, List.set_cons_succ]
            refine AtU.take (i := 5) (v := ?_) rfl (by kernel_rfl) (by kernel_rfl) (fun _ _ _ h => h) (by rfl) ?_ ?_
            rotate_left 1
            · intro w9 hSw; (try dsimp only at hSw); go_simp; try with_reducible rfl
            try simp only [Act.put, List.setIfInBounds_toArray, List.set_cons_zero, List.set_cons_succ]
            refine AtU.take (i := 6) (v := ?_) rfl (by kernel_rfl) (by kernel_rfl) (fun _ _ _ h => h) (by rfl) ?_ ?_
            rotate_left 1
            · intro w9 hSw; (try dsimp only at hSw); go_simp; try with_reducible rfl
            try simp only [Act.put, List.setIfInBounds_toArray, List.set_cons_zero, List.set_cons_succ]
            refine AtU.take (i := 7) (v := ?_) rfl (by kernel_rfl) (by kernel_rfl) (fun _ _ _ h => h) (by rfl) ?_ ?_
            rotate_left 1
            · intro w9 hSw; (try dsimp only at hSw); go_simp; try with_reducible rfl
            try simp only [Act.put, List.setIfInBounds_toArray, List.set_cons_zero, List.set_cons_succ]
            refine AtU.take (i := 8) (v := ?_) rfl (by kernel_rfl) (by kernel_rfl) (fun _ _ _ h => h) (by rfl) ?_ ?_
            rotate_left 1
            · intro w9 hSw; (try dsimp only at hSw); go_simp; try with_reducible rfl
            try simp only [Act.put, List.setIfInBounds_toArray, List.set_cons_zero, List.set_cons_succ]
            refine AtU.take (i := 9) (v := ?_) rfl (by kernel_rfl) (by kernel_rfl) (fun _ _ _ h => h) (by rfl) ?_ ?_
            rotate_left 1
            · intro w9 hSw; (try dsimp only at hSw); go_simp; try with_reducible rfl
            try simp only [Act.put, List.setIfInBounds_toArray, List.set_cons_zero, List.set_cons_succ]
            refine AtU.take (i := 10) (v := ?_) rfl (by kernel_rfl) (by kernel_rfl) (fun _ _ _ h => h) (by rfl) ?_ ?_
            rotate_left 1
            · intro w9 hSw; (try dsimp only at hSw); go_simp; try with_reducible rfl
            try simp only [Act.put, List.setIfInBounds_toArray, List.set_cons_zero, List.set_cons_succ]
            refine AtU.take (i := 11) (v := ?_) rfl (by kernel_rfl) (by kernel_rfl) (fun _ _ _ h => h) (by rfl) ?_ ?_
            rotate_left 1
            · intro w9 hSw; (try dsimp only at hSw); go_simp; try with_reducible rfl
            try simp only [Act.put, List.setIfInBounds_toArray, List.set_cons_zero, List.set_cons_succ]
            refine AtU.take (i := 12) (v := ?_) rfl (by kernel_rfl) (by kernel_rfl) (fun _ _ _ h => h) (by rfl) ?_ ?_
            rotate_left 1
            · intro w9 hSw; (try dsimp only at hSw); go_simp; try with_reducible rfl
            try simp only [Act.put, List.setIfInBounds_toArray, List.set_cons_zero, List.set_cons_succ]
            refine AtU.take (i := 13) (v := ?_) rfl (by kernel_rfl) (by kernel_rfl) (fun _ _ _ h => h) (by rfl) ?_ ?_
            rotate_left 1
            · intro w9 hSw; (try dsimp only at hSw); go_simp; try with_reducible rfl
            try simp only [Act.put, List.setIfInBounds_toArray, List.set_cons_zero, List.set_cons_succ]
            refine AtU.take (i := 14) (v := ?_) rfl (by kernel_rfl) (by kernel_rfl) (fun _ _ _ h => h) (by rfl) ?_ ?_
            rotate_left 1
            · intro w9 hSw; (try dsimp only at hSw); go_simp; try with_reducible rfl
            try simp only [Act.put, List.setIfInBounds_toArray, List.set_cons_zero, List.set_cons_succ]
            refine AtU.take (i := 15) (v := ?_) rfl (by kernel_rfl) (by kernel_rfl) (fun _ _ _ h => h) (by rfl) ?_ ?_
            rotate_left 1
            · intro w9 hSw; (try dsimp only at hSw); go_simp; try with_reducible rfl
            try simp only [Act.put, List.setIfInBounds_toArray, List.set_cons_zero, List.set_cons_succ]
            refine AtU.take (i := 19) (v := ?_) rfl (by kernel_rfl) (by kernel_rfl) (fun _ _ _ h => h) (by rfl) ?_ ?_
            rotate_left 1
            · intro w9 hSw; (try dsimp only at hSw); go_simp; try with_reducible rfl
            try simp only [Act.put, List.setIfInBounds_toArray, List.set_cons_zero, List.set_cons_succ]
            refine AtU.take (i := 20) (v := ?_) rfl (by kernel_rfl) (by kernel_rfl) (fun _ _ _ h => h) (by rfl) ?_ ?_
            rotate_left 1
            · intro w9 hSw; (try dsimp only at hSw); go_simp; try with_reducible rfl
            try simp only [Act.put, List.setIfInBounds_toArray, List.set_cons_zero, List.set_cons_succ]
            refine AtU.take (i := 21) (v := ?_) rfl (by kernel_rfl) (by kernel_rfl) (fun _ _ _ h => h) (by rfl) ?_ ?_
            rotate_left 1
            · intro w9 hSw; (try dsimp only at hSw); go_simp; try with_reducible rfl
            try simp only [Act.put, List.setIfInBounds_toArray, List.set_cons_zero, List.set_cons_succ]
            refine AtU.take (i := 22) (v := ?_) rfl (by kernel_rfl) (by kernel_rfl) (fun _ _ _ h => h) (by rfl) ?_ ?_
            rotate_left 1
            · intro w9 hSw; (try dsimp only at hSw); go_simp; try with_reducible rfl
            try simp only [Act.put, List.setIfInBounds_toArray, List.set_cons_zero, List.set_cons_succ]
            refine AtU.take (i := 23) (v := ?_) rfl (by kernel_rfl) (by kernel_rfl) (fun _ _ _ h => h) (by rfl) ?_ ?_
            rotate_left 1
            · intro w9 hSw; (try dsimp only at hSw); go_simp; try with_reducible rfl
            try simp only [Act.put, List.setIfInBounds_toArray, List.set_cons_zero, List.set_cons_succ]
            refine AtU.take (i := 24) (v := ?_) rfl (by kernel_rfl) (by kernel_rfl) (fun _ _ _ h => h) (by rfl) ?_ ?_
            rotate_left 1
            · intro w9 hSw; (try dsimp only at hSw); go_simp; try with_reducible rfl
            try simp only [Act.put, List.setIfInBounds_toArray, List.set_cons_zero, List.set_cons_succ]
            refine AtU.step (i := 16) rfl (by kernel_rfl) (fun K hK => ?_)
            go_simp
            go_at_call 42
            with_reducible refine (HNx.out _).mono ?_
            rintro e w5 ⟨rfl, rfl⟩
            refine hK.out _ _ ⟨HI.out.drew.bx.cell 3, HCl.out _ HI.out.drew.bel⟩ ?_
            clear hK K
            try simp only [Act.put, List.setIfInBounds_toArray, List.set_cons_zero, List.set_cons_succ]
            refine AtU.take (i := 17) (v := ?_) rfl (by kernel_rfl) (by kernel_rfl) (fun _ _ _ h => h) (by rfl) ?_ ?_
            rotate_left 1
            · intro w9 hSw; (try dsimp only at hSw); go_simp; try with_reducible rfl
            try simp only [Act.put, List.setIfInBounds_toArray, List.set_cons_zero, List.set_cons_succ]
            refine AtU.take (i := 18) (v := ?_) rfl (by kernel_rfl) (by kernel_rfl) (fun _ _ _ h => h) (by rfl) ?_ ?_
            rotate_left 1
            · intro w9 hSw; (try dsimp only at hSw); go_simp; try with_reducible rfl
            try simp only [Act.put, List.setIfInBounds_toArray, List.set_cons_zero, List.set_cons_succ]
            refine AtU.step (i := 25) rfl (by kernel_rfl) (fun K hK => ?_)
            go_simp
            go_at_call 43
            with_reducible refine (HPv.out _).mono ?_
            rintro e w5 ⟨rfl, rfl⟩
            refine hK.out _ _ ⟨HI.out.drew.bx.cell 3, HCl.out _ HI.out.drew.bel⟩ ?_
            clear hK K
            try simp only [Act.put, List.setIfInBounds_toArray, List.set_cons_zero, List.set_cons_succ]
            refine AtU.take (i := 26) (v := ?_) rfl (by kernel_rfl) (by kernel_rfl) (fun _ _ _ h => h) (by rfl) ?_ ?_
            rotate_left 1
            · intro w9 hSw; (try dsimp only at hSw); go_simp; try with_reducible rfl
            try simp only [Act.put, List.setIfInBounds_toArray, List.set_cons_zero, List.set_cons_succ]
            refine AtU.take (i := 27) (v := ?_) rfl (by kernel_rfl) (by kernel_rfl) (fun _ _ _ h => h) (by rfl) ?_ ?_
            rotate_left 1
            · intro w9 hSw; (try dsimp only at hSw); go_simp; try with_reducible rfl
            try simp only [Act.put, List.setIfInBounds_toArray, List.set_cons_zero, List.set_cons_succ]
            refine AtU.step (i := 28) rfl (by kernel_rfl) (fun K hK => ?_)
            go_simp
            refine hK.out _ _ ⟨HIa.out.bx.cell 3, HCl.out _ HIa.out.bel⟩ ?_
            clear hK K
            try simp only [Act.put, List.setIfInBounds_toArray, List.set_cons_zero, List.set_cons_succ]
            refine AtU.step (i := 29) rfl (by kernel_rfl) (fun K hK => ?_)
            refine step_append_lies (wx.alloc (.cells #[.int .i64 x0, .int .i64 x1, .int .i64 x2] 3)).drew (by rfl) (.tmp 51) (.tmp 78) 28 (by rfl) w1.heap.size 3 i2 _ 1 8 Tryz.underlying28 hj2 hz0' hz1' hz2' (by rfl) (by decide) vK' Kk.length (intsV Kk) (by rfl) HIa.out.rK ⟨wx.heap.size, 0, none⟩ 3 3 [.int .i64 x0, .int .i64 x1, .int .i64 x2] (by rfl) (by rfl) HNa.out (by simp [Value.oneCell']) (by decide) c9 c8 (by have := HIa.out.bel.size; exact this) _ rfl ?_
            intro g8 cap8 W8 hr8 hg8 hat8 hlt8
            have h9 := HIa.out.appK hg8 (K4 := Kk ++ [x0, x1, x2]) (v4 := .slice (some ⟨g8, 0, none⟩) (Kk.length + 3) cap8) (by rw [intsV_three, List.length_append]; exact hr8)
            obtain ⟨lx8, z0, g0, z1, g1, z2, g2, z3, g3⟩ := fourH h9.1
            have HF8 := Lib.hid h9.2.2
            refine hK.out _ _ ⟨h9.1.cell 3, HCl.out _ h9.2.1⟩ ?_
            clear hK K
            try simp only [Act.put, List.setIfInBounds_toArray, List.set_cons_zero, List.set_cons_succ]
            clear hr8 hg8 hat8 hlt8 h9
            refine AtU.take (i := 30) (v := ?_) rfl (by kernel_rfl) (by kernel_rfl) (fun _ _ _ h => h) (by rfl) ?_ ?_
            rotate_left 1
            · intro w9 hSw; (try dsimp only at hSw); go_simp; try with_reducible rfl
            try simp only [Act.put, List.setIfInBounds_toArray, List.set_cons_zero, List.set_cons_succ]
            refine AtU.last (i := 31) rfl (by kernel_rfl) (fun K hK => ?_)
            go_simp
            refine hK.out _ _ ?_
            clear hK K
            refine NoPanic.normal ?_
            clear y0 f0 y1 f1 y2 f2 y3 f3 z0 g0 z1 g1 z2 g2 z3 g3
            go_wp2
            go_roundw
            case measure => simp [intOf]; omega
            case rel => exact ⟨j + 1, by omega, by go_num, _, by rw [HTk.out]; exact HF8.out⟩
          · obtain rfl : j = nC := by omega
            have hI3 : BdSt w1 wx (w1.heap.size + 1) (k : Int) (.slice aT nT cT) (paintL P (rtN T c).1) (sideL K (rtL T c)) vP' vK' := by
              have e : sideL K (rtL T c) = sideF K ((rtL T c).take j) := by unfold sideL; rw [if_neg HK0.out, List.take_of_length_le (by rw [HnC.out]; exact Nat.le_refl _)]
              rw [e]
              exact hI
            clear hI
            obtain ⟨aP9, cP9, rfl⟩ := ownsRow_slice hI3.rP
            obtain ⟨aK9, cK9, rfl⟩ := ownsRow_slice hI3.rK
            obtain ⟨lx, y0, f0, y1, f1, y2, f2, y3, f3⟩ := fourH hI3.bx
            have hBr9 := HBr1.out.below hI3.bel HBr1.out.lt
            obtain ⟨lr, z0, g0, z1, g1, z2, g2, z3, g3⟩ := fourH hBr9
            have s1 := hBr9.set_ 0 (.int .i64 (k : Int))
            have s2 := s1.set_ 1 (.slice aT nT cT)
            have s3 := s2.set_ 2 (.slice aP9 (paintL P (rtN T c).1).length cP9)
            have s4 := s3.set_ 3 (.slice aK9 (sideL K (rtL T c)).length cK9)
            have HF := Lib.hid (fin_body hBr9 (own_below HrT.out hI3.bel) hI3.rP hI3.rK (HB1b.out.trans (hI3.bel.mono hz1)) (Nat.le_succ _) (.int .i64 (k : Int)) (.slice aT nT cT) (.slice aP9 (paintL P (rtN T c).1).length cP9) (.slice aK9 (sideL K (rtL T c)).length cK9))
            have hxr : w1.heap.size + 1 ≠ w.heap.size + 1 := by have := HBr.out.lt; have := HB1.out.size; omega
            have HE := Lib.hid (And.intro HnT.out (And.intro HnO.out HB1b.out))
            clear hBr9 s1 s2 s3 s4 hI3
            go_wp2
            obtain ⟨hb9, hT9, hP9, hK9, hbel⟩ := HF.out
            obtain ⟨-, p0, -, p1, -, p2, -, p3, -⟩ := fourH hb9
            refine bodyPost_ret (v := .agg #[.int .i64 (k : Int), .slice aT nT cT, .slice aP9 (paintL P (rtN T c).1).length cP9, .slice aK9 (sideL K (rtL T c)).length cK9]) (by simp [results, Tryz.results63, go_sem, p0, p1, p2, p3]) rfl ?_
            refine ⟨.slice aT nT cT, .slice aP9 (paintL P (rtN T c).1).length cP9, .slice aK9 (sideL K (rtL T c)).length cK9, ?_, ?_, own_lower hP9 hz1, own_lower hK9 hz1, hbel⟩
            · show _ = Ending.returned (.agg #[.int .i64 ((rtN T c).1.length : Int), _, _, _])
              rw [HnO.out]
            · show World.ownsRow _ _ _ _ _ (rtN T c).2.length (ws3 (rtN T c).2)
              rw [HnT.out]
              exact own_lower hT9 HB.out.size
end Go.Proofs.YtghlnknncahkgaaGreat
namespace Go.Proofs.YtghlnknncahkgaaGreat
open Go.RowKit Go.Maps

def Lens (N : Int) (T P : List Tr) (K : List Int) : Prop := (P.length : Int) = N ∧ (K.length = 0 ∨ K.length = 3 * T.length)
/-- What canon.form answers, every length a letter. -/
structure FmL (T P : List Tr) (K : List Int) (w w' : World) (out : List Int) (m : Nat) (SN : Int) (vX vY vZ : Value) (nX nY nZ : Nat) : Prop where
  sh : Shl T out
  mm : (m : Int) = cntL out
  eN : (joinM (soupsM (sortM T P K out m))).1 = SN
  eX : (joinM (soupsM (sortM T P K out m))).2.length = nX
  eY : ((sortM T P K out m).flatMap (·.P)).length = nY
  eZ : ((sortM T P K out m).flatMap (·.K)).length = nZ
  rX : w'.ownsRow w.heap.size 72 3 vX nX (ws3 (joinM (soupsM (sortM T P K out m))).2)
  rY : w'.ownsRow w.heap.size 111 3 vY nY (ws3 ((sortM T P K out m).flatMap (·.P)))
  rZ : w'.ownsRow w.heap.size 3 1 vZ nZ (intsV ((sortM T P K out m).flatMap (·.K)))
/-- What canon.Body answers. -/
def CbPost (N : Int) (T P : List Tr) (K : List Int) (w : World) (e : Ending) (w' : World) : Prop :=
  ((¬ Surf N T ∧ e = .returned (.tuple #[.agg #[.int .i64 0, .slice none 0 0, .slice none 0 0, .slice none 0 0], .int .i64 11])) ∨
   (Surf N T ∧ ¬ Lens N T P K ∧ e = .returned (.tuple #[.agg #[.int .i64 0, .slice none 0 0, .slice none 0 0, .slice none 0 0], .int .i64 1])) ∨
   (Surf N T ∧ Lens N T P K ∧ ∃ out m SN aX nX cX aY nY cY aZ nZ cZ, FmL T P K w w' out m SN (.slice aX nX cX) (.slice aY nY cY) (.slice aZ nZ cZ) nX nY nZ ∧ e = .returned (.tuple #[.agg #[.int .i64 SN, .slice aX nX cX, .slice aY nY cY, .slice aZ nZ cZ], .int .i64 0]))) ∧ Below w.heap.size w w'
theorem form_let (N : Int) (T P : List Tr) (K : List Int) (vT vP vK : Value) (w : World) (hS : Surf N T) (hTr : TrisRd w vT T) (hP : TrisRd w vP P) (hK : IntsRd w vK K) (hPl : P ≠ [] → (P.length : Int) = N) (hKl : K ≠ [] → K.length = 3 * T.length) (h60 : N ≤ 60) (hl : T.length ≤ 1000) :
    Calls Tryz.prog 45 #[.agg #[.int .i64 N, vT, vP, vK]] w fun e w' => ∃ out m SN aX nX cX aY nY cY aZ nZ cZ aO nO cO, FmL T P K w w' out m SN (.slice aX nX cX) (.slice aY nY cY) (.slice aZ nZ cZ) nX nY nZ ∧ e = .returned (.tuple #[.agg #[.int .i64 SN, .slice aX nX cX, .slice aY nY cY, .slice aZ nZ cZ], .slice aO nO cO]) ∧ Below w.heap.size w w' := by
  refine (form_any N T P K vT vP vK w hS hTr hP hK hPl hKl h60 hl).mono ?_
  rintro e w2 ⟨out, m, vX, vY, vZ, vO, hsh, hm, rfl, hX, hY, hZ, hO, hb2⟩
  obtain ⟨aX, cX, rfl⟩ := ownsRow_slice hX
  obtain ⟨aY, cY, rfl⟩ := ownsRow_slice hY
  obtain ⟨aZ, cZ, rfl⟩ := ownsRow_slice hZ
  obtain ⟨aO, cO, rfl⟩ := ownsRow_slice hO
  exact ⟨out, m, _, aX, _, cX, aY, _, cY, aZ, _, cZ, aO, _, cO, ⟨hsh, hm, rfl, rfl, rfl, rfl, hX, hY, hZ⟩, rfl, hb2⟩
set_option maxRecDepth 100000 in
set_option maxHeartbeats 4000000 in
theorem cbody_any (N : Int) (vT vP vK : Value) (T P : List Tr) (K : List Int) (w : World) (hT : TrisRd w vT T) (hP : TrisRd w vP P) (hK : IntsRd w vK K) (hl : T.length ≤ 1000) (h60 : N ≤ 60) :
    Calls Tryz.prog 30 #[.agg #[.int .i64 N, vT, vP, vK]] w fun e w' => CbPost N T P K w e w' := by
  have hb1 := (Blk.new w 65 #[.int .i64 N, vT, vP, vK]).alloc (.cells #[.int .i64 0, .slice none 0 0, .slice none 0 0, .slice none 0 0] 65)
  have hb2 : Blk ((w.alloc (.cells #[.int .i64 N, vT, vP, vK] 65)).alloc (.cells #[.int .i64 0, .slice none 0 0, .slice none 0 0, .slice none 0 0] 65)) (w.heap.size + 1) 65 #[.int .i64 0, .slice none 0 0, .slice none 0 0, .slice none 0 0] := blk_new_at (by simp)
  have hB0 : Below w.heap.size w ((w.alloc (.cells #[.int .i64 N, vT, vP, vK] 65)).alloc (.cells #[.int .i64 0, .slice none 0 0, .slice none 0 0, .slice none 0 0] 65)) := ((Below.refl _ _).alloc (Nat.le_refl _) _).alloc (by simp) _
  have HIs := Lib.hid (is_any N vT T _ (hT.below hB0) (by omega))
  have HFm := Lib.hid (fun (W : World) (hW : Below w.heap.size w W) (hS : Surf N T) (hL : Lens N T P K) => form_let N T P K vT vP vK W hS (hT.below hW) (hP.below hW) (hK.below hW) (fun _ => hL.1) (fun h => by rcases hL.2 with h0 | h0; exact absurd (List.eq_nil_of_length_eq_zero h0) h; exact h0) h60 hl)
  obtain ⟨aT, cT, rfl, -⟩ := hT
  obtain ⟨aP, cP, rfl, -⟩ := hP
  obtain ⟨aK, cK, rfl, -⟩ := hK
  obtain ⟨nT, hnT⟩ : ∃ n, T.length = n := ⟨_, rfl⟩
  obtain ⟨nP, hnP⟩ : ∃ n, P.length = n := ⟨_, rfl⟩
  obtain ⟨nK, hnK⟩ : ∃ n, K.length = n := ⟨_, rfl⟩
  rw [hnT, hnP, hnK] at hb1 hb2 hB0 HIs HFm
  rw [hnT] at hl
  rw [hnT, hnP, hnK]
  have HL := Lib.hid (show Lens N T P K ↔ ((nP : Int) = N ∧ (nK = 0 ∨ nK = 3 * nT)) from by unfold Lens; rw [hnT, hnP, hnK])
  have HB0 := Lib.hid hB0
  have HK := Lib.hid hb1
  have HKr := Lib.hid hb2
  obtain ⟨l0, x0, x1, x2, x3⟩ := fourF hb1
  clear hb1 hb2 hB0 hnT hnP hnK
  go_enter Tryz.func30, Tryz.ntmps30
  go_upto_if 6 with (go_at_call 19; go_loud (with_reducible refine HIs.out.mono ?_; rintro e w1 ⟨bs, rfl, hbs, hb⟩))
  have hB1 := HB0.out.trans (hb.mono HB0.out.size)
  have hk := HK.out.below hb l0
  have hkr := HKr.out.below hb HKr.out.lt
  obtain ⟨l1, y0, y1, y2, y3⟩ := fourF hk
  obtain ⟨lr, z0, f0, z1, f1, z2, f2, z3, f3⟩ := fourH hkr
  have HB1 := Lib.hid hB1
  have HK1 := Lib.hid hk
  have HKr1 := Lib.hid hkr
  have HZ0 := Lib.hid (fin_body hkr (World.ownsRow_nil w1 0 72 3) (World.ownsRow_nil w1 0 111 3) (World.ownsRow_nil w1 0 3 1) hB1 (Nat.le_succ _) (.int .i64 0) (.slice none 0 0) (.slice none 0 0) (.slice none 0 0))
  clear hB1 hk hkr hb x0 x1 x2 x3 l0
  cases bs with
  | false =>
    have HN := Lib.hid (show ¬ Surf N T from fun h => by have := hbs.2 h; cases this)
    clear hbs
    go_wp2
    obtain ⟨hb9, -, -, -, hbel⟩ := HZ0.out
    obtain ⟨-, p0, p1, p2, p3⟩ := fourF hb9
    refine bodyPost_ret (v := .tuple #[.agg #[.int .i64 0, .slice none 0 0, .slice none 0 0, .slice none 0 0], .int .i64 11]) (by simp [results, Tryz.results30, go_sem, p0, p1, p2, p3]) rfl ?_
    exact ⟨.inl ⟨HN.out, rfl⟩, hbel⟩
  | true =>
    have HS := Lib.hid (hbs.1 rfl)
    clear hbs
    by_cases hP : (nP : Int) = N
    · have bP : ((nP : Int) != N) = false := by simpa using hP
      by_cases hK0 : nK = 0
      · have bK : ((nK : Int) != 0) = false := by simp; omega
        have HLn := Lib.hid (HL.out.2 ⟨hP, .inl hK0⟩)
        clear hP hK0
        have HF1 := Lib.hid (HFm.out w1 HB1.out HS.out HLn.out)
        clear z0 f0 z1 f1 z2 f2 z3 f3
        go_upto_region 6 with (go_at_call 45; go_loud (with_reducible refine HF1.out.mono ?_; rintro e w2 ⟨out, m, SN, aX, nX, cX, aY, nY, cY, aZ, nZ, cZ, aO, nO, cO, hL9, rfl, hb2⟩))
        have HL9 := Lib.hid hL9
        have hA := (Below.refl w2.heap.size w2).alloc (Nat.le_refl _) (.cells #[.int .i64 SN, .slice aX nX cX, .slice aY nY cY, .slice aZ nZ cZ] 65)
        have hBB := hb2.trans (hA.mono hb2.size)
        have hr9 := HKr1.out.below hBB HKr1.out.lt
        have HFn := Lib.hid (fin_body hr9 (own_below hL9.rX hA) (own_below hL9.rY hA) (own_below hL9.rZ hA) (HB1.out.trans (hBB.mono HB1.out.size)) (Nat.le_succ _) (.int .i64 SN) (.slice aX nX cX) (.slice aY nY cY) (.slice aZ nZ cZ))
        obtain ⟨lr9, z0, f0, z1, f1, z2, f2, z3, f3⟩ := fourH hr9
        have hne9 : w2.heap.size ≠ w.heap.size + 1 := by have := HKr1.out.lt; have := hb2.size; omega
        obtain ⟨lq9, q0, q1, q2, q3⟩ := fourF (Blk.new w2 65 #[.int .i64 SN, .slice aX nX cX, .slice aY nY cY, .slice aZ nZ cZ])
        clear hL9 hA hBB hr9 hb2
        go_wp2
        obtain ⟨hb9, hX9, hY9, hZ9, hbel⟩ := HFn.out
        obtain ⟨-, p0, p1, p2, p3⟩ := fourF hb9
        refine bodyPost_ret (v := .tuple #[.agg #[.int .i64 SN, .slice aX nX cX, .slice aY nY cY, .slice aZ nZ cZ], .int .i64 0]) (by simp [results, Tryz.results30, go_sem, p0, p1, p2, p3]) rfl ?_
        exact ⟨.inr (.inr ⟨HS.out, HLn.out, out, m, SN, aX, nX, cX, aY, nY, cY, aZ, nZ, cZ, ⟨HL9.out.sh, HL9.out.mm, HL9.out.eN, HL9.out.eX, HL9.out.eY, HL9.out.eZ, own_lower hX9 HB1.out.size, own_lower hY9 HB1.out.size, own_lower hZ9 HB1.out.size⟩, rfl⟩), hbel⟩
      · have bK : ((nK : Int) != 0) = true := by simp; omega
        by_cases hK3 : nK = 3 * nT
        · have bK3 : ((nK : Int) != 3 * (nT : Int)) = false := by simp; omega
          have HLn := Lib.hid (HL.out.2 ⟨hP, .inr hK3⟩)
          clear hP hK0 hK3
          have HF1 := Lib.hid (HFm.out w1 HB1.out HS.out HLn.out)
          clear z0 f0 z1 f1 z2 f2 z3 f3
          go_upto_region 6 with (go_at_call 45; go_loud (with_reducible refine HF1.out.mono ?_; rintro e w2 ⟨out, m, SN, aX, nX, cX, aY, nY, cY, aZ, nZ, cZ, aO, nO, cO, hL9, rfl, hb2⟩))
          have HL9 := Lib.hid hL9
          have hA := (Below.refl w2.heap.size w2).alloc (Nat.le_refl _) (.cells #[.int .i64 SN, .slice aX nX cX, .slice aY nY cY, .slice aZ nZ cZ] 65)
          have hBB := hb2.trans (hA.mono hb2.size)
          have hr9 := HKr1.out.below hBB HKr1.out.lt
          have HFn := Lib.hid (fin_body hr9 (own_below hL9.rX hA) (own_below hL9.rY hA) (own_below hL9.rZ hA) (HB1.out.trans (hBB.mono HB1.out.size)) (Nat.le_succ _) (.int .i64 SN) (.slice aX nX cX) (.slice aY nY cY) (.slice aZ nZ cZ))
          obtain ⟨lr9, z0, f0, z1, f1, z2, f2, z3, f3⟩ := fourH hr9
          have hne9 : w2.heap.size ≠ w.heap.size + 1 := by have := HKr1.out.lt; have := hb2.size; omega
          obtain ⟨lq9, q0, q1, q2, q3⟩ := fourF (Blk.new w2 65 #[.int .i64 SN, .slice aX nX cX, .slice aY nY cY, .slice aZ nZ cZ])
          clear hL9 hA hBB hr9 hb2
          go_wp2
          obtain ⟨hb9, hX9, hY9, hZ9, hbel⟩ := HFn.out
          obtain ⟨-, p0, p1, p2, p3⟩ := fourF hb9
          refine bodyPost_ret (v := .tuple #[.agg #[.int .i64 SN, .slice aX nX cX, .slice aY nY cY, .slice aZ nZ cZ], .int .i64 0]) (by simp [results, Tryz.results30, go_sem, p0, p1, p2, p3]) rfl ?_
          exact ⟨.inr (.inr ⟨HS.out, HLn.out, out, m, SN, aX, nX, cX, aY, nY, cY, aZ, nZ, cZ, ⟨HL9.out.sh, HL9.out.mm, HL9.out.eN, HL9.out.eX, HL9.out.eY, HL9.out.eZ, own_lower hX9 HB1.out.size, own_lower hY9 HB1.out.size, own_lower hZ9 HB1.out.size⟩, rfl⟩), hbel⟩
        · have bK3 : ((nK : Int) != 3 * (nT : Int)) = true := by simp; omega
          have HNL := Lib.hid (show ¬ Lens N T P K from fun h => by have := HL.out.1 h; omega)
          clear hP hK0 hK3
          go_wp2
          obtain ⟨hb9, -, -, -, hbel⟩ := HZ0.out
          obtain ⟨-, p0, p1, p2, p3⟩ := fourF hb9
          refine bodyPost_ret (v := .tuple #[.agg #[.int .i64 0, .slice none 0 0, .slice none 0 0, .slice none 0 0], .int .i64 1]) (by simp [results, Tryz.results30, go_sem, p0, p1, p2, p3]) rfl ?_
          exact ⟨.inr (.inl ⟨HS.out, HNL.out, rfl⟩), hbel⟩
    · have bP : ((nP : Int) != N) = true := by simpa using hP
      have HNL := Lib.hid (show ¬ Lens N T P K from fun h => hP (HL.out.1 h).1)
      clear hP
      go_wp2
      obtain ⟨hb9, -, -, -, hbel⟩ := HZ0.out
      obtain ⟨-, p0, p1, p2, p3⟩ := fourF hb9
      refine bodyPost_ret (v := .tuple #[.agg #[.int .i64 0, .slice none 0 0, .slice none 0 0, .slice none 0 0], .int .i64 1]) (by simp [results, Tryz.results30, go_sem, p0, p1, p2, p3]) rfl ?_
      exact ⟨.inr (.inl ⟨HS.out, HNL.out, rfl⟩), hbel⟩
end Go.Proofs.YtghlnknncahkgaaGreat
namespace Go.Proofs.YtghlnknncahkgaaGreat
open Go.RowKit

set_option maxRecDepth 100000 in
set_option maxHeartbeats 2000000 in
theorem order_any (N1 N2 : Int) (v1 v2 : Value) (T1 T2 : List Tr) (w : World) (h1 : TrisRd w v1 T1) (h2 : TrisRd w v2 T2) (l1 : T1.length ≤ 100000) (_l2 : T2.length ≤ 100000) :
    Calls Tryz.prog 49 #[.agg #[.int .i64 N1, v1], .agg #[.int .i64 N2, v2]] w fun e w' => e = .returned (.int .i64 (ordM N1 T1 N2 T2)) ∧ Below w.heap.size w w' := by
  obtain ⟨a1, c1, rfl, g1, -, -⟩ := id h1
  obtain ⟨a2, c2, rfl, g2, -, -⟩ := id h2
  have b1 := (Blk.new w 24 #[.int .i64 N1, .slice a1 T1.length c1]).alloc (.cells #[.int .i64 N2, .slice a2 T2.length c2] 24)
  have b2 : Blk ((w.alloc (.cells #[.int .i64 N1, .slice a1 T1.length c1] 24)).alloc (.cells #[.int .i64 N2, .slice a2 T2.length c2] 24)) (w.heap.size + 1) 24 #[.int .i64 N2, .slice a2 T2.length c2] := by
    have := Blk.new (w.alloc (.cells #[.int .i64 N1, .slice a1 T1.length c1] 24)) 24 #[.int .i64 N2, .slice a2 T2.length c2]
    rwa [size_alloc'] at this
  have hB : Below w.heap.size w ((w.alloc (.cells #[.int .i64 N1, .slice a1 T1.length c1] 24)).alloc (.cells #[.int .i64 N2, .slice a2 T2.length c2] 24)) := ((Below.refl _ _).alloc (Nat.le_refl _) _).alloc (by simp) _
  obtain ⟨p0, x0, -, x1, -⟩ := b1.two
  obtain ⟨q0, y0, -, y1, -⟩ := b2.two
  have t1 := h1.below hB
  have t2 := h2.below hB
  clear h1 h2
  by_cases hN : N1 = N2
  · subst hN
    have bN : (N1 != N1) = false := by simp
    by_cases hL : T1.length = T2.length
    · have bL : ((T1.length : Int) != (T2.length : Int)) = false := by simp; omega
      have HL := Lib.hid hL
      clear hL
      go_enter Tryz.func49, Tryz.ntmps49
      go_wp2
      generalize (w.alloc (.cells #[.int .i64 N1, .slice a1 T1.length c1] 24)).alloc (.cells #[.int .i64 N1, .slice a2 T2.length c2] 24) = W0 at *
      have HX := Lib.hid (fun (W : World) (hW : Below W0.heap.size W0 W) => And.intro ((hW.cell (p := ⟨w.heap.size, 0, none⟩) p0).trans x0) (And.intro ((hW.cell (p := ⟨w.heap.size, 1, none⟩) p0).trans x1) (And.intro ((hW.cell (p := ⟨w.heap.size + 1, 0, none⟩) q0).trans y0) ((hW.cell (p := ⟨w.heap.size + 1, 1, none⟩) q0).trans y1))))
      have HT1 := Lib.hid t1
      have HT2 := Lib.hid t2
      have HB := Lib.hid hB
      clear x0 x1 y0 y1 b1 b2 t1 t2 hB
      go_loopw [5] (fun i5 wx => ∃ t : Nat, i5 = .int .i64 t ∧ t ≤ T1.length ∧ (flatT T1).take (3 * t) = (flatT T2).take (3 * t) ∧ Below W0.heap.size W0 wx) (fun i5 _ => T1.length - (intOf i5).toNat)
      case atStart => exact ⟨0, rfl, Nat.zero_le _, rfl, Below.refl _ _⟩
      case round =>
        rename World => wx
        obtain ⟨t, rfl, htl, he, hbx⟩ := hrel
        obtain ⟨x0, x1, y0, y1⟩ := HX.out _ hbx
        have HE := Lib.hid he
        have HBX := Lib.hid hbx
        clear he hbx
        by_cases hlt : t < T1.length
        · have hlt3 : (t : Int) < (T1.length : Int) := by omega
          have hlt4 : (t : Int) < (T2.length : Int) := by have := HL.out; omega
          have ht0 : (0 : Int) ≤ (t : Int) := by omega
          have Hlt := Lib.hid hlt
          clear hlt
          go_wp2
          go_loopw [6] (fun i6 wy => ∃ k : Nat, i6 = .int .i64 k ∧ k ≤ 3 ∧ (flatT T1).take (3 * t + k) = (flatT T2).take (3 * t + k) ∧ Below W0.heap.size W0 wy) (fun i6 _ => 3 - (intOf i6).toNat)
          case atStart => exact ⟨0, rfl, by omega, HE.out, HBX.out⟩
          case round =>
            rename World => wy
            clear x0 x1 y0 y1 HBX
            obtain ⟨k, rfl, hk, he, hby⟩ := hrel
            obtain ⟨x0, x1, y0, y1⟩ := HX.out _ hby
            have HE2 := Lib.hid he
            have HBY := Lib.hid hby
            by_cases hk3 : k < 3
            · obtain ⟨b, o, x, rfl, hb, hx, hc⟩ := HT1.out.at_ Hlt.out hk3
              obtain ⟨b', o', y, rfl, hb', hy, hc'⟩ := HT2.out.at_ (t := t) (by have := HL.out; have := Hlt.out; omega) hk3
              have hc2 := (hby.cell (p := ⟨b, _, none⟩) hb).trans hc
              have hc2' := (hby.cell (p := ⟨b', _, none⟩) hb').trans hc'
              have hk4 : (k : Int) < 3 := by omega
              have hk0 : (0 : Int) ≤ (k : Int) := by omega
              by_cases hne : x = y
              · subst hne
                have bx : (x != x) = false := by simp
                have HE3 := Lib.hid (show (flatT T1).take (3 * t + (k + 1)) = (flatT T2).take (3 * t + (k + 1)) from by
                  rw [show 3 * t + (k + 1) = (3 * t + k) + 1 from by omega, List.take_add_one, List.take_add_one, he, hx, hy])
                clear he hby hx hy hc hc' hb hb'
                go_wp2
                go_region
                all_goals
                  go_wp2
                  go_roundw
                  case measure => simp [intOf]; omega
                  case rel => exact ⟨k + 1, by go_num, by omega, HE3.out, HBY.out.drew⟩
              · have bx : (x != y) = true := by simpa using hne
                have HZ := Lib.hid (ordM_f (N := N1) HL.out he hx hy hne)
                clear he hby hx hy hc hc' hb hb' hne
                go_wp2
                go_region
                all_goals
                  go_wp2
                  go_region_with (go_at_call 79; refine (sign_any _ _ _).mono ?_; rintro e w' ⟨rfl, rfl⟩)
                  all_goals
                    go_wp2
                    go_ret
                    exact ⟨by rw [HZ.out]; rfl, HB.out.trans ((HBY.out.drew.drew).mono HB.out.size)⟩
            · obtain rfl : k = 3 := by omega
              clear he hby
              go_wp2
              go_roundw
              case measure => simp [intOf]; omega
              case rel => exact ⟨t + 1, by go_num, by have := Hlt.out; omega, by rw [show 3 * (t + 1) = 3 * t + 3 from by omega]; exact HE2.out, HBY.out⟩
        · obtain rfl : t = T1.length := by omega
          have HZ := Lib.hid (show ordM N1 T1 N1 T2 = 0 from ordM_e (by
            have := HE.out
            have e1 := flatT_length T1
            have e2 := flatT_length T2
            have := HL.out
            rwa [List.take_of_length_le (by omega), List.take_of_length_le (by omega)] at HE) HL.out)
          go_wp2
          go_ret
          exact ⟨by rw [HZ.out]; rfl, HB.out.trans (HBX.out.mono HB.out.size)⟩
    · have hz := ordM_l (N := N1) (T1 := T1) (T2 := T2) hL
      rw [hz]
      have bL : ((T1.length : Int) != (T2.length : Int)) = true := by simp; omega
      have HB := Lib.hid hB
      clear hB t1 t2 b1 b2 hz hL
      go_enter Tryz.func49, Tryz.ntmps49
      go_wp2_with fail
      refine (sign_any _ _ _).mono ?_
      rintro e w' ⟨rfl, rfl⟩
      go_wp2
      go_ret
      exact ⟨rfl, HB.out⟩
  · have hz := ordM_n (T1 := T1) (T2 := T2) hN
    have bN : (N1 != N2) = true := by simpa using hN
    have HB := Lib.hid hB
    rw [hz]
    clear hB t1 t2 b1 b2 hz hN
    go_enter Tryz.func49, Tryz.ntmps49
    go_wp2_with fail
    refine (sign_any _ _ _).mono ?_
    rintro e w' ⟨rfl, rfl⟩
    go_wp2
    go_ret
    exact ⟨rfl, HB.out⟩
end Go.Proofs.YtghlnknncahkgaaGreat
namespace Go.Proofs.YtghlnknncahkgaaGreat
open Go.RowKit Go.Maps

theorem bestN_lt {rw_ : Nat → List Int} {out : List Int} {n k d : Nat} (h : bestN rw_ out n k = some d) : d < k := (bestN_some h).1
end Go.Proofs.YtghlnknncahkgaaGreat
namespace Go.Proofs.YtghlnknncahkgaaGreat
open Go.RowKit

theorem insB_at {α : Type} {lt : α → α → Bool} {l : List α} {x : α} {i : Nat} (h1 : ∀ y ∈ l.drop i, lt x y = true) (h2 : ∀ y, 0 < i → l[i - 1]? = some y → lt x y = false) (hi : i ≤ l.length) : insB lt l x = l.take i ++ x :: l.drop i := by
  have e : l.reverse = (l.drop i).reverse ++ (l.take i).reverse := by rw [← List.reverse_append, List.take_append_drop]
  have hp : ∀ y ∈ (l.drop i).reverse, lt x y = true := fun y hy => h1 y (List.mem_reverse.1 hy)
  unfold insB
  rw [e, List.takeWhile_append_of_pos hp, List.dropWhile_append_of_pos hp]
  have hr : (l.take i).reverse.takeWhile (lt x) = [] ∧ (l.take i).reverse.dropWhile (lt x) = (l.take i).reverse := by
    by_cases h0 : i = 0
    · subst h0
      simp
    · have hlt : i - 1 < l.length := by omega
      have e2 : l.take i = l.take (i - 1) ++ [l[i - 1]] := by
        have := List.take_succ_eq_append_getElem hlt
        rw [show i - 1 + 1 = i from by omega] at this
        exact this
      have hf := h2 _ (by omega) (List.getElem?_eq_getElem hlt)
      rw [e2, List.reverse_append, List.reverse_singleton, List.singleton_append]
      simp [hf]
  rw [hr.1, hr.2]
  simp
theorem sortB_snoc {α : Type} (lt : α → α → Bool) (l : List α) (x : α) : sortB lt (l ++ [x]) = insB lt (sortB lt l) x := by
  unfold sortB
  rw [List.foldl_append]
  rfl
theorem recsM_succ (T P : List Tr) (K out : List Int) (m : Nat) : recsM T P K out (m + 1) = recsM T P K out m ++ [fromM T P K (bestC T P K out m)] := by
  unfold recsM
  rw [List.range_succ, List.map_append]
  rfl
theorem sortM_succ (T P : List Tr) (K out : List Int) (m : Nat) : sortM T P K out (m + 1) = insB ltR (sortM T P K out m) (fromM T P K (bestC T P K out m)) := by
  unfold sortM
  rw [recsM_succ, sortB_snoc]
end Go.Proofs.YtghlnknncahkgaaGreat
namespace Go.Proofs.YtghlnknncahkgaaGreat
open Go.RowKit Go.Maps Go.Sort

theorem own_prefix {W : World} {base g k c t : Nat} {e : TypeId} {s : Nat} {xs : List Value} (h : W.ownsRow base e s (.slice (some ⟨g, 0, none⟩) k c) k xs) (ht : t ≤ k) : W.ownsRow base e s (.slice (some ⟨g, 0, none⟩) t c) t (xs.take (t * s)) := by
  rcases h.2 with ⟨e0, _⟩ | ⟨g', cap, cur, e0, hb, hg, h1, h2, h3, h4⟩
  · cases e0
  · injection e0 with e1 e2 e3
    injection e1 with e1
    injection e1 with e1
    subst e1
    subst e3
    refine ⟨by rw [List.length_take, h.1]; exact Nat.min_eq_left (Nat.mul_le_mul_right _ ht), .inr ⟨g, c, cur, rfl, hb, hg, Nat.le_trans ht h1, h2, h3, ?_⟩⟩
    rw [← h4, List.take_take, Nat.min_eq_left (Nat.mul_le_mul_right _ ht)]
theorem step_append_at {P : Program} (w : World) {ops : Array Oper} {o : Oper} {a : Act} {K : Act → World → Prop} {Q : Exit → Act → World → Prop} {E : Prop} (hgd : o.guard = none) (s x : Operand) (t : TypeId)
    (ho : o.op = .call { callee := .builtin .append, args := #[s, x], argTypes := #[t, t] })
    (base : Nat) (e : TypeId) (i : TypeInfo) (z : Value) (size bytes : Nat) (ht : P.underlying t = some (.slice e)) (hi : P.info? e = some i) (hz : i.zero = some z)
    (hsize : i.size = size) (hby : i.bytes = bytes) (hzs : z.cells.size = size) (hsz : 0 < size)
    (v : Value) (n : Nat) (xs : List Value) (hs : a.eval s = v) (hown : w.ownsRow base e size v n xs)
    (ad : Addr) (m c : Nat) (news : List Value) (hx : a.eval x = .slice (some ad) m c) (hl : news.length = m * size) (hnews : ∀ j u, news[j]? = some u → w.cell? (ad.add j) = some u) (h1 : ∀ y ∈ news, y.oneCell' = true) (h63 : n + m ≤ maxLen) (hbytes : (n + m) * bytes ≤ 140737488355328) (hbase : base ≤ w.heap.size)
    (h : ∀ v' w', w'.ownsRow base e size v' (n + m) (xs ++ news) → w.grownBy w' v.ownBlock → (v'.ownBlock = v.ownBlock ∨ v'.ownBlock = some w.heap.size) → K (a.put o.dst v') w') :
    if Region.wanted o (yielded ops a.tmps) = true then Oper.wp P o a w K Q else E := by
  have hw : Region.wanted o (yielded ops a.tmps) = true := by simp [Region.wanted, hgd]
  rw [if_pos hw]
  obtain ⟨v', w', hr, h2, h3, -, h4⟩ := run_append_own_at (P := P) w base t o.type e i z size bytes ht hi hz hsize hby hzs hsz v n xs hown ad m c news hl hnews h1 h63 hbytes hbase
  unfold Oper.wp execOp
  simp only [ho, resolve, invoke, builtin, Sem.run_bind, Sem.run_pure, Result.andThen_ok, List.map_toArray, List.map_cons, List.map_nil, hs, hx, hr]
  exact h v' w' h2 h3 h4
theorem own_some {W : World} {base : Nat} {e : TypeId} {s n m : Nat} {v : Value} {xs : List Value} (h : W.ownsRow base e s v m xs) (hm : m = n + 1) : ∃ g c, v = .slice (some ⟨g, 0, none⟩) (n + 1) c := by
  subst hm
  rcases h.2 with ⟨_, e⟩ | ⟨g, cap, cur, e, _⟩
  · cases e
  · exact ⟨g, cap, e⟩
end Go.Proofs.YtghlnknncahkgaaGreat
namespace Go.Proofs.YtghlnknncahkgaaGreat
open Go.RowKit

theorem cmpL_zero : ∀ {a b : List Int}, cmpL a b = 0 → a = b
  | [], [], _ => rfl
  | [], _ :: _, h => by simp [cmpL] at h
  | _ :: _, [], h => by simp [cmpL] at h
  | x :: xs, y :: ys, h => by
    simp only [cmpL] at h
    by_cases h1 : x < y
    · rw [if_pos h1] at h
      omega
    · rw [if_neg h1] at h
      by_cases h2 : y < x
      · rw [if_pos h2] at h
        omega
      · rw [if_neg h2] at h
        rw [show x = y from by omega, cmpL_zero h]
theorem cmpL_pre (r a b : List Int) : cmpL (r ++ a) (r ++ b) = cmpL a b := by
  induction r with
  | nil => rfl
  | cons x r ih =>
    simp only [List.cons_append, cmpL]
    rw [if_neg (by omega), if_neg (by omega)]
    exact ih
theorem cmpL_app : ∀ {a b : List Int} (_ : a.length = b.length) (_ : cmpL a b ≠ 0) (s t : List Int), cmpL (a ++ s) (b ++ t) = cmpL a b
  | [], [], _, h, _, _ => absurd rfl h
  | [], _ :: _, h, _, _, _ => by simp at h
  | _ :: _, [], h, _, _, _ => by simp at h
  | x :: xs, y :: ys, hl, h, s, t => by
    simp only [List.cons_append, cmpL] at h ⊢
    by_cases h1 : x < y
    · rw [if_pos h1, if_pos h1]
    · rw [if_neg h1] at h ⊢
      rw [if_neg h1]
      by_cases h2 : y < x
      · rw [if_pos h2, if_pos h2]
      · rw [if_neg h2] at h ⊢
        rw [if_neg h2]
        exact cmpL_app (by simpa using hl) h s t
def bodM (N : Int) (T P : List Tr) (K : List Int) : List Int := rowM N T ++ (flatT P ++ K)
theorem bodM_ne {N1 N2 : Int} {T1 T2 P1 P2 : List Tr} {K1 K2 : List Int} (h : ordM N1 T1 N2 T2 ≠ 0) : cmpL (bodM N1 T1 P1 K1) (bodM N2 T2 P2 K2) = ordM N1 T1 N2 T2 := by
  by_cases hN : N1 = N2
  · subst hN
    by_cases hL : T1.length = T2.length
    · exact cmpL_app (by rw [rowM_len, rowM_len, hL]) h _ _
    · rw [ordM_l hL]
      exact cmpL_at (j := 1) rfl rfl rfl (by omega)
  · rw [ordM_n hN]
    exact cmpL_at (j := 0) rfl rfl rfl hN
theorem bodM_eq {N1 N2 : Int} {T1 T2 P1 P2 : List Tr} {K1 K2 : List Int} (h : ordM N1 T1 N2 T2 = 0) : cmpL (bodM N1 T1 P1 K1) (bodM N2 T2 P2 K2) = cmpL (flatT P1 ++ K1) (flatT P2 ++ K2) := by
  unfold bodM
  rw [cmpL_zero h]
  exact cmpL_pre _ _ _
theorem cmpL_atP {a b s t : List Int} (hl : a.length = b.length) {j : Nat} {x y : Int} (h : a.take j = b.take j) (hx : a[j]? = some x) (hy : b[j]? = some y) (hne : x ≠ y) : cmpL (a ++ s) (b ++ t) = cmpI x y := by
  have h1 := cmpL_at h hx hy hne
  rw [cmpL_app hl (by rw [h1]; unfold cmpI; split <;> omega), h1]
theorem intsRd_at {w : World} {a : Option Addr} {m c : Nat} {K : List Int} (h : IntsRd w (.slice a m c) K) {t : Nat} (ht : t < K.length) : ∃ b o x, a = some ⟨b, o, none⟩ ∧ b < w.heap.size ∧ K[t]? = some x ∧ w.cell? ⟨b, o + t, none⟩ = some (.int .i64 x) := by
  obtain ⟨a', c', e, -, hr⟩ := h
  cases e
  obtain ⟨b, o, rfl, hb, s0⟩ := hr t _ (List.getElem?_eq_getElem ht)
  exact ⟨b, o, _, rfl, hb, List.getElem?_eq_getElem ht, s0⟩
set_option maxRecDepth 100000 in
set_option maxHeartbeats 4000000 in
theorem bodies_any (N1 N2 : Int) (v1 v2 p1 p2 k1 k2 : Value) (T1 T2 P1 P2 : List Tr) (K1 K2 : List Int) (w : World) (h1 : TrisRd w v1 T1) (h2 : TrisRd w v2 T2) (hp1 : TrisRd w p1 P1) (hp2 : TrisRd w p2 P2) (hk1 : IntsRd w k1 K1) (hk2 : IntsRd w k2 K2)
    (l1 : T1.length ≤ 100000) (l2 : T2.length ≤ 100000) (lP : P1.length ≤ 100000) (lK : K1.length ≤ 100000) (hE : ordM N1 T1 N2 T2 = 0 → P1.length = P2.length ∧ K1.length = K2.length) :
    Calls Tryz.prog 64 #[.agg #[.int .i64 N1, v1, p1, k1], .agg #[.int .i64 N2, v2, p2, k2]] w fun e w' => e = .returned (.int .i64 (cmpL (bodM N1 T1 P1 K1) (bodM N2 T2 P2 K2))) ∧ Below w.heap.size w w' := by
  obtain ⟨a1, c1, rfl, g1, -, -⟩ := id h1
  obtain ⟨a2, c2, rfl, g2, -, -⟩ := id h2
  obtain ⟨d1, e1, rfl, gp1, -, -⟩ := id hp1
  obtain ⟨d2, e2, rfl, gp2, -, -⟩ := id hp2
  obtain ⟨f1, q1, rfl, gk1, -⟩ := id hk1
  obtain ⟨f2, q2, rfl, gk2, -⟩ := id hk2
  have hB : Below w.heap.size w ((w.alloc (.cells #[.int .i64 N1, .slice a1 T1.length c1, .slice d1 P1.length e1, .slice f1 K1.length q1] 65)).alloc (.cells #[.int .i64 N2, .slice a2 T2.length c2, .slice d2 P2.length e2, .slice f2 K2.length q2] 65)) := ((Below.refl _ _).alloc (Nat.le_refl _) _).alloc (by simp) _
  have b1 := (Blk.new w 65 #[.int .i64 N1, .slice a1 T1.length c1, .slice d1 P1.length e1, .slice f1 K1.length q1]).alloc (.cells #[.int .i64 N2, .slice a2 T2.length c2, .slice d2 P2.length e2, .slice f2 K2.length q2] 65)
  have b2 : Blk ((w.alloc (.cells #[.int .i64 N1, .slice a1 T1.length c1, .slice d1 P1.length e1, .slice f1 K1.length q1] 65)).alloc (.cells #[.int .i64 N2, .slice a2 T2.length c2, .slice d2 P2.length e2, .slice f2 K2.length q2] 65)) (w.heap.size + 1) 65 #[.int .i64 N2, .slice a2 T2.length c2, .slice d2 P2.length e2, .slice f2 K2.length q2] := blk_new_at (by simp)
  obtain ⟨-, x0, x1, x2, x3⟩ := fourF b1
  obtain ⟨-, y0, y1, y2, y3⟩ := fourF b2
  have HO := Lib.hid (order_any N1 N2 (.slice a1 T1.length c1) (.slice a2 T2.length c2) T1 T2 _ (h1.below hB) (h2.below hB) l1 l2)
  have HP1 := Lib.hid (hp1.below hB)
  have HP2 := Lib.hid (hp2.below hB)
  have HK1 := Lib.hid (hk1.below hB)
  have HK2 := Lib.hid (hk2.below hB)
  have HB := Lib.hid hB
  have HX := Lib.hid (fun (W : World) (hW : Below ((w.alloc (.cells #[.int .i64 N1, .slice a1 T1.length c1, .slice d1 P1.length e1, .slice f1 K1.length q1] 65)).alloc (.cells #[.int .i64 N2, .slice a2 T2.length c2, .slice d2 P2.length e2, .slice f2 K2.length q2] 65)).heap.size ((w.alloc (.cells #[.int .i64 N1, .slice a1 T1.length c1, .slice d1 P1.length e1, .slice f1 K1.length q1] 65)).alloc (.cells #[.int .i64 N2, .slice a2 T2.length c2, .slice d2 P2.length e2, .slice f2 K2.length q2] 65)) W) =>
    And.intro ((b1.below hW b1.lt).cell 2) (And.intro ((b1.below hW b1.lt).cell 3) (And.intro ((b2.below hW b2.lt).cell 2) ((b2.below hW b2.lt).cell 3))))
  obtain ⟨om, hom⟩ : ∃ om, ordM N1 T1 N2 T2 = om := ⟨_, rfl⟩
  rw [hom] at HO
  have HOm := Lib.hid hom
  have HE := Lib.hid hE
  clear h1 h2 hp1 hp2 hk1 hk2 hB b1 b2 hom hE
  by_cases h0 : om = 0
  · subst h0
    have hE := HE.out HOm.out
    have HL := Lib.hid hE
    have HZ := Lib.hid (bodM_eq (P1 := P1) (P2 := P2) (K1 := K1) (K2 := K2) HOm.out)
    clear hE
    go_enter Tryz.func64, Tryz.ntmps64
    go_upto_if 15 with (go_at_call 49; go_loud (with_reducible refine HO.out.mono ?_; rintro e w1 ⟨rfl, hb1⟩))
    generalize hW0 : ((w.alloc (.cells #[.int .i64 N1, .slice a1 T1.length c1, .slice d1 P1.length e1, .slice f1 K1.length q1] 65)).alloc (.cells #[.int .i64 N2, .slice a2 T2.length c2, .slice d2 P2.length e2, .slice f2 K2.length q2] 65)) = W0 at *
    have HB1 := Lib.hid hb1
    clear x0 x1 x2 x3 y0 y1 y2 y3 hb1 hW0
    obtain ⟨x2, x3, y2, y3⟩ := HX.out _ HB1.out
    have hP12 : (P1.length : Int) = (P2.length : Int) := by have := HL.out.1; omega
    clear x2 x3 y2 y3
    go_wp2
    go_loopw [6] (fun i6 wx => ∃ t : Nat, i6 = .int .i64 (t : Int) ∧ t ≤ P1.length ∧ (flatT P1).take (3 * t) = (flatT P2).take (3 * t) ∧ Below W0.heap.size W0 wx) (fun i6 _ => P1.length - (intOf i6).toNat)
    case atStart => exact ⟨0, rfl, Nat.zero_le _, rfl, HB1.out⟩
    case round =>
      rename World => wx
      obtain ⟨t, rfl, htl, he, hbx⟩ := hrel
      obtain ⟨x2, x3, y2, y3⟩ := HX.out _ hbx
      have HEq := Lib.hid he
      have HBX := Lib.hid hbx
      clear he hbx
      by_cases hlt : t < P1.length
      · have hlt3 : (t : Int) < (P1.length : Int) := by omega
        have hlt4 : (t : Int) < (P2.length : Int) := by omega
        have ht0 : (0 : Int) ≤ (t : Int) := by omega
        have Hlt := Lib.hid hlt
        clear hlt
        go_wp2
        go_loopw [7] (fun i7 wy => ∃ k : Nat, i7 = .int .i64 (k : Int) ∧ k ≤ 3 ∧ (flatT P1).take (3 * t + k) = (flatT P2).take (3 * t + k) ∧ Below W0.heap.size W0 wy) (fun i7 _ => 3 - (intOf i7).toNat)
        case atStart => exact ⟨0, rfl, by omega, HEq.out, HBX.out⟩
        case round =>
          rename World => wy
          clear x2 x3 y2 y3 HBX
          obtain ⟨k, rfl, hk, he, hby⟩ := hrel
          obtain ⟨x2, x3, y2, y3⟩ := HX.out _ hby
          have HE2 := Lib.hid he
          have HBY := Lib.hid hby
          by_cases hk3 : k < 3
          · obtain ⟨b, o, x, rfl, hb, hx, hc⟩ := HP1.out.at_ Hlt.out hk3
            obtain ⟨b', o', y, rfl, hb', hy, hc'⟩ := HP2.out.at_ (t := t) (by have := Hlt.out; omega) hk3
            have hc2 := (hby.cell (p := ⟨b, _, none⟩) hb).trans hc
            have hc2' := (hby.cell (p := ⟨b', _, none⟩) hb').trans hc'
            have hk4 : (k : Int) < 3 := by omega
            have hk0 : (0 : Int) ≤ (k : Int) := by omega
            by_cases hne : x = y
            · subst hne
              have bx : (x != x) = false := by simp
              have HE3 := Lib.hid (show (flatT P1).take (3 * t + (k + 1)) = (flatT P2).take (3 * t + (k + 1)) from by
                rw [show 3 * t + (k + 1) = (3 * t + k) + 1 from by omega, List.take_add_one, List.take_add_one, he, hx, hy])
              clear he hby hx hy hc hc' hb hb'
              go_wp2
              go_region
              all_goals
                go_wp2
                go_roundw
                case measure => simp [intOf]; omega
                case rel => exact ⟨k + 1, by go_num, by omega, HE3.out, HBY.out.drew⟩
            · have bx : (x != y) = true := by simpa using hne
              have HZ2 := Lib.hid (cmpL_atP (s := K1) (t := K2) (show (flatT P1).length = (flatT P2).length from by rw [flatT_length, flatT_length, HL.out.1]) he hx hy hne)
              clear he hby hx hy hc hc' hb hb' hne
              go_wp2
              go_region
              all_goals
                go_wp2
                go_region_with (go_at_call 79; refine (sign_any _ _ _).mono ?_; rintro e w' ⟨rfl, rfl⟩)
                all_goals
                  go_wp2
                  go_ret
                  exact ⟨by rw [HZ.out, HZ2.out]; rfl, HB.out.trans ((HBY.out.drew.drew).mono HB.out.size)⟩
          · obtain rfl : k = 3 := by omega
            clear he hby
            go_wp2
            go_roundw
            case measure => simp [intOf]; omega
            case rel => exact ⟨t + 1, by go_num, by have := Hlt.out; omega, by rw [show 3 * (t + 1) = 3 * t + 3 from by omega]; exact HE2.out, HBY.out⟩
      · obtain rfl : t = P1.length := by omega
        have HZ3 := Lib.hid (show cmpL (flatT P1 ++ K1) (flatT P2 ++ K2) = cmpL K1 K2 from by
          have he := HEq.out
          have e1 := flatT_length P1
          have e2 := flatT_length P2
          have := HL.out.1
          rw [List.take_of_length_le (by omega), List.take_of_length_le (by omega)] at he
          rw [he]
          exact cmpL_pre _ _ _)
        have HW0 := HBX.out.size
        clear hlt
        have hd9 : decide ((P1.length : Int) < (P1.length : Int)) = false := by simp
        go_wp2
        have hK12 : (K1.length : Int) = (K2.length : Int) := by have := HL.out.2; omega
        clear x2 x3 y2 y3
        go_loopw [8] (fun i8 wy => ∃ t : Nat, i8 = .int .i64 (t : Int) ∧ t ≤ K1.length ∧ K1.take t = K2.take t ∧ Below W0.heap.size W0 wy) (fun i8 _ => K1.length - (intOf i8).toNat)
        case atStart => exact ⟨0, rfl, Nat.zero_le _, rfl, HBX.out⟩
        case round =>
          rename World => wy
          obtain ⟨t, rfl, htl2, he, hby⟩ := hrel
          obtain ⟨x2, x3, y2, y3⟩ := HX.out _ hby
          have HE2 := Lib.hid he
          have HBY := Lib.hid hby
          by_cases hlt : t < K1.length
          · have hlt3 : (t : Int) < (K1.length : Int) := by omega
            have hlt4 : (t : Int) < (K2.length : Int) := by omega
            have ht0 : (0 : Int) ≤ (t : Int) := by omega
            obtain ⟨b, o, x, rfl, hb, hx, hc⟩ := intsRd_at HK1.out hlt
            obtain ⟨b', o', y, rfl, hb', hy, hc'⟩ := intsRd_at HK2.out (t := t) (by omega)
            have hc2 := (hby.cell (p := ⟨b, _, none⟩) hb).trans hc
            have hc2' := (hby.cell (p := ⟨b', _, none⟩) hb').trans hc'
            by_cases hne : x = y
            · subst hne
              have bx : (x != x) = false := by simp
              have HE3 := Lib.hid (show K1.take (t + 1) = K2.take (t + 1) from by rw [List.take_add_one, List.take_add_one, he, hx, hy])
              clear he hby hx hy hc hc' hb hb'
              go_wp2
              go_region
              all_goals
                go_wp2
                go_roundw
                case measure => simp [intOf]; omega
                case rel => exact ⟨t + 1, by go_num, by omega, HE3.out, HBY.out.drew⟩
            · have bx : (x != y) = true := by simpa using hne
              have HZ2 := Lib.hid (cmpL_at he hx hy hne)
              clear he hby hx hy hc hc' hb hb' hne
              go_wp2
              go_region
              all_goals
                go_wp2
                go_region_with (go_at_call 79; refine (sign_any _ _ _).mono ?_; rintro e w' ⟨rfl, rfl⟩)
                all_goals
                  go_wp2
                  go_ret
                  exact ⟨by rw [HZ.out, HZ3.out, HZ2.out]; rfl, HB.out.trans ((HBY.out.drew.drew).mono HB.out.size)⟩
          · obtain rfl : t = K1.length := by omega
            have HZ4 := Lib.hid (show cmpL K1 K2 = 0 from by
              rw [List.take_of_length_le (by omega), List.take_of_length_le (by omega)] at he
              rw [he]
              exact cmpL_self _)
            clear he hby
            go_wp2
            go_ret
            exact ⟨by rw [HZ.out, HZ3.out, HZ4.out]; rfl, HB.out.trans (HBY.out.mono HB.out.size)⟩
  · have hz := bodM_ne (P1 := P1) (P2 := P2) (K1 := K1) (K2 := K2) (show ordM N1 T1 N2 T2 ≠ 0 from by rw [HOm.out]; exact h0)
    rw [hz, HOm.out]
    have bo : (om != 0) = true := by simpa using h0
    clear hz h0
    go_enter Tryz.func64, Tryz.ntmps64
    go_wp2_with (go_at_call 49; go_loud (with_reducible refine HO.out.mono ?_; rintro e w1 ⟨rfl, hb1⟩))
    go_ret
    exact ⟨rfl, HB.out.trans (hb1.mono HB.out.size)⟩
end Go.Proofs.YtghlnknncahkgaaGreat
namespace Go.Proofs.YtghlnknncahkgaaGreat
open Go.RowKit Go.Maps Go.Sort

/-- A part as it lies, and what is meant. -/
structure PbV where
  N : Int
  vT : Value
  vP : Value
  vK : Value
  m : RecM
def PbV.enc (x : PbV) : List Value := [.int .i64 x.N, x.vT, x.vP, x.vK]
theorem PbV.enc_len (x : PbV) : x.enc.length = 4 := rfl
def PbOwn (W : World) (base : Nat) (x : PbV) : Prop := x.N = x.m.N ∧ W.ownsRow base 72 3 x.vT x.m.T.length (ws3 x.m.T) ∧ W.ownsRow base 111 3 x.vP x.m.P.length (ws3 x.m.P) ∧ W.ownsRow base 3 1 x.vK x.m.K.length (intsV x.m.K)
theorem PbOwn.below {W W' : World} {base : Nat} {x : PbV} (h : PbOwn W base x) (hb : Below W.heap.size W W') : PbOwn W' base x := ⟨h.1, own_below h.2.1 hb, own_below h.2.2.1 hb, own_below h.2.2.2 hb⟩
/-- The parts so far, in order. -/
structure PtSt (w1 W : World) (vL : Value) (xs : List PbV) (l : List RecM) : Prop where
  map : xs.map (·.m) = l
  own : ∀ x ∈ xs, PbOwn W w1.heap.size x
  row : W.ownsRow w1.heap.size 65 4 vL xs.length (xs.flatMap PbV.enc)
  bel : Below w1.heap.size w1 W
theorem PtSt.below {w1 W W' : World} {vL : Value} {xs : List PbV} {l : List RecM} (h : PtSt w1 W vL xs l) (hb : Below W.heap.size W W') : PtSt w1 W' vL xs l :=
  ⟨h.map, fun x hx => (h.own x hx).below hb, own_below h.row hb, h.bel.trans (hb.mono h.bel.size)⟩
theorem own_nil_body {W : World} {base g : Nat} (h : Blk W g 65 #[]) (hb : base ≤ g) : W.ownsRow base 65 4 (.slice (some ⟨g, 0, none⟩) 0 0) 0 [] := ⟨rfl, .inr ⟨g, 0, #[], rfl, hb, h, Nat.le_refl _, Nat.zero_le _, rfl, rfl⟩⟩
theorem infoBody : (Tryz.prog.info? 65).map (fun i => (i.zero, i.size, i.bytes)) = some (some (.agg #[.int .i64 0, .slice none 0 0, .slice none 0 0, .slice none 0 0]), 4, 80) := by kernel_rfl
theorem PbOwn.one {W : World} {base : Nat} {x : PbV} (h : PbOwn W base x) : ∀ y ∈ x.enc, y.oneCell' = true := by
  intro y hy
  simp only [PbV.enc, List.mem_cons, List.not_mem_nil, or_false] at hy
  rcases hy with rfl | rfl | rfl | rfl
  · rfl
  · exact own_one h.2.1
  · exact own_one h.2.2.1
  · exact own_one h.2.2.2
theorem PtSt.one {w1 W : World} {vL : Value} {xs : List PbV} {l : List RecM} (h : PtSt w1 W vL xs l) : ∀ y ∈ xs.flatMap PbV.enc, y.oneCell' = true := by
  intro y hy
  obtain ⟨x, hx, hy⟩ := List.mem_flatMap.1 hy
  exact (h.own x hx).one y hy
theorem flat_enc4 (xs : List PbV) (i j : Nat) (hj : j < 4) : (xs.flatMap PbV.enc)[i * 4 + j]? = (xs[i]?).bind (fun x => x.enc[j]?) := by
  induction xs generalizing i with
  | nil => simp
  | cons x xs ih =>
    rw [List.flatMap_cons]
    cases i with
    | zero =>
      rw [Nat.zero_mul, Nat.zero_add, List.getElem?_append_left (by rw [PbV.enc_len]; exact hj)]
      simp
    | succ i =>
      rw [List.getElem?_append_right (by rw [PbV.enc_len]; omega), PbV.enc_len, show (i + 1) * 4 + j - 4 = i * 4 + j from by omega, ih]
      simp
theorem flat_take4 (xs : List PbV) (t : Nat) : (xs.flatMap PbV.enc).take (t * 4) = (xs.take t).flatMap PbV.enc := by
  induction xs generalizing t with
  | nil => simp
  | cons x xs ih =>
    cases t with
    | zero => simp
    | succ t =>
      rw [List.take_succ_cons, List.flatMap_cons, List.flatMap_cons, List.take_append, PbV.enc_len, show (t + 1) * 4 - 4 = t * 4 from by omega, ih, List.take_of_length_le (by rw [PbV.enc_len]; omega)]
theorem flat_drop4 (xs : List PbV) (t : Nat) : (xs.flatMap PbV.enc).drop (t * 4) = (xs.drop t).flatMap PbV.enc := by
  induction xs generalizing t with
  | nil => simp
  | cons x xs ih =>
    cases t with
    | zero => simp
    | succ t =>
      rw [List.drop_succ_cons, List.flatMap_cons, List.drop_append, PbV.enc_len, show (t + 1) * 4 - 4 = t * 4 from by omega, ih, List.drop_of_length_le (by rw [PbV.enc_len]; omega)]
      rfl
theorem flat_len4 (xs : List PbV) : (xs.flatMap PbV.enc).length = xs.length * 4 := by
  induction xs with
  | nil => rfl
  | cons x xs ih => rw [List.flatMap_cons, List.length_append, ih, PbV.enc_len, List.length_cons]; omega
theorem PtSt.len {w1 W : World} {vL : Value} {xs : List PbV} {l : List RecM} (h : PtSt w1 W vL xs l) : xs.length = l.length := by
  rw [← h.map, List.length_map]
/-- The k-th part's cells. -/
theorem PtSt.cells {w1 W : World} {g n c k : Nat} {xs : List PbV} {l : List RecM} {x : PbV} (h : PtSt w1 W (.slice (some ⟨g, 0, none⟩) n c) xs l) (hx : xs[k]? = some x) :
    g < W.heap.size ∧ W.cell? ⟨g, k * 4, none⟩ = some (.int .i64 x.N) ∧ W.cell? ⟨g, k * 4 + 1, none⟩ = some x.vT ∧ W.cell? ⟨g, k * 4 + 2, none⟩ = some x.vP ∧ W.cell? ⟨g, k * 4 + 3, none⟩ = some x.vK := by
  have hlt : k < xs.length := (List.getElem?_eq_some_iff.1 hx).1
  have hn : n = xs.length := by
    rcases h.row.2 with ⟨e, _⟩ | ⟨g', cap', cur, e, _⟩
    · cases e
    · injection e
  subst hn
  have hc : ∀ j (hj : j < 4), W.cell? ⟨g, k * 4 + j, none⟩ = x.enc[j]? := by
    intro j hj
    rw [h.row.cellAt (k * 4 + j) (by omega), flat_enc4 _ _ _ hj, hx]
    rfl
  exact ⟨(h.row.lt g rfl).2, hc 0 (by decide), hc 1 (by decide), hc 2 (by decide), hc 3 (by decide)⟩
theorem PtSt.ins {w1 W W' : World} {vL v' : Value} {xs : List PbV} {l l' : List RecM} {t n' : Nat} {p : PbV} (h : PtSt w1 W vL xs l) (hp : PbOwn W' w1.heap.size p) (hb : Below W.heap.size W W')
    (hr : W'.ownsRow w1.heap.size 65 4 v' n' ((([] ++ (xs.flatMap PbV.enc).take (t * 4)) ++ p.enc) ++ (xs.flatMap PbV.enc).drop (t * 4))) (ht : t ≤ xs.length) (hn : n' = xs.length + 1) (hl : l' = l.take t ++ p.m :: l.drop t) :
    PtSt w1 W' v' (xs.take t ++ p :: xs.drop t) l' := by
  refine ⟨?_, ?_, ?_, h.bel.trans (hb.mono h.bel.size)⟩
  · rw [hl, ← h.map]
    simp
  · intro x hx
    rcases List.mem_append.1 hx with hx | hx
    · exact (h.own x (List.mem_of_mem_take hx)).below hb
    · rcases List.mem_cons.1 hx with rfl | hx
      · exact hp
      · exact (h.own x (List.mem_of_mem_drop hx)).below hb
  · have e1 : (xs.take t ++ p :: xs.drop t).length = n' := by rw [List.length_append, List.length_take, List.length_cons, List.length_drop, hn]; omega
    have e2 : (xs.take t ++ p :: xs.drop t).flatMap PbV.enc = (([] ++ (xs.flatMap PbV.enc).take (t * 4)) ++ p.enc) ++ (xs.flatMap PbV.enc).drop (t * 4) := by
      rw [List.nil_append, flat_take4, flat_drop4, List.flatMap_append, List.flatMap_cons, List.append_assoc]
    rw [e1, e2]
    exact hr
theorem rec_ltB (rp y : RecM) : ltR rp y = decide (0 < cmpL (bodM y.N y.T y.P y.K) (bodM rp.N rp.T rp.P rp.K)) := by
  unfold ltR
  have := cmpL_anti (bodM y.N y.T y.P y.K) (bodM rp.N rp.T rp.P rp.K)
  show decide (cmpL (bodM rp.N rp.T rp.P rp.K) (bodM y.N y.T y.P y.K) < 0) = _
  apply decide_eq_decide.2
  omega
theorem PtSt.get {w1 W : World} {vL : Value} {xs : List PbV} {l : List RecM} (h : PtSt w1 W vL xs l) {k : Nat} (hk : k < l.length) : ∃ x, xs[k]? = some x ∧ l[k]? = some x.m ∧ PbOwn W w1.heap.size x := by
  have hk2 : k < xs.length := by rw [h.len]; exact hk
  refine ⟨xs[k], List.getElem?_eq_getElem hk2, ?_, h.own _ (List.getElem_mem hk2)⟩
  rw [← h.map, List.getElem?_map, List.getElem?_eq_getElem hk2]
  rfl
theorem PtSt.news {w1 W : World} {g n c t : Nat} {xs : List PbV} {l : List RecM} (h : PtSt w1 W (.slice (some ⟨g, 0, none⟩) n c) xs l) : ∀ (j : Nat) (u : Value), ((xs.flatMap PbV.enc).drop (t * 4))[j]? = some u → W.cell? ((⟨g, t * 4, none⟩ : Addr).add j) = some u := by
  intro j u hj
  have hn : n = xs.length := by
    rcases h.row.2 with ⟨e, _⟩ | ⟨g', cap', cur, e, _⟩
    · cases e
    · injection e
  subst hn
  rw [List.getElem?_drop] at hj
  have hlt := (List.getElem?_eq_some_iff.1 hj).1
  rw [flat_len4] at hlt
  have hadd : (⟨g, t * 4, none⟩ : Addr).add j = ⟨g, t * 4 + j, none⟩ := by unfold Addr.add; split <;> simp_all
  rw [hadd, h.row.cellAt (t * 4 + j) hlt, hj]
theorem own_prefixB' {w1 W : World} {g n c t : Nat} {xs : List PbV} {l : List RecM} (h : PtSt w1 W (.slice (some ⟨g, 0, none⟩) n c) xs l) (ht : t ≤ n) : W.ownsRow w1.heap.size 65 4 (.slice (some ⟨g, 0, none⟩) t c) t ((xs.flatMap PbV.enc).take (t * 4)) := by
  have hn : n = xs.length := by
    rcases h.row.2 with ⟨e, _⟩ | ⟨g', cap', cur, e, _⟩
    · cases e
    · injection e
  subst hn
  exact own_prefix h.row ht
end Go.Proofs.YtghlnknncahkgaaGreat
namespace Go.Proofs.YtghlnknncahkgaaGreat
open Go.RowKit

/-- In the midst of part n, begun at f: W are numbered so far. -/
structure OfMid (T : List Tr) (f n : Nat) (out : List Int) (W : List Nat) (out' : List Int) : Prop where
  len : out'.length = T.length
  nd : W.Nodup
  lt : ∀ u ∈ W, u < T.length
  free : ∀ u ∈ W, at_ out u = -1
  lab : ∀ u ∈ W, at_ out' u = n
  old : ∀ j, j ∉ W → at_ out' j = at_ out j
  fin : f ∈ W
  reach : ∀ u ∈ W, Reach T f u
theorem OfInv.mid {T : List Tr} {f n : Nat} {out : List Int} (h : OfInv T f n out) (hf : f < T.length) (h0 : at_ out f < 0) : OfMid T f n out [f] (out.set f (n : Int)) := by
  have b := h.begin_ hf h0
  exact ⟨b.len, b.nd, b.lt, b.free, b.lab, b.old, b.fin, b.reach⟩
/-- Who has number n is of W. -/
theorem OfMid.mem {T : List Tr} {f n : Nat} {out : List Int} {W : List Nat} {out' : List Int} (hI : OfInv T f n out) (h : OfMid T f n out W out') {j : Nat} (hj : j < T.length) (e : at_ out' j = (n : Int)) : j ∈ W := by
  refine Classical.byContradiction fun hne => ?_
  rw [h.old j hne] at e
  have := (hI.lo j hj).2
  omega
/-- Whose number is there already, and across from one of W: he is of W. -/
theorem OfMid.old_in {T : List Tr} (hE : (T.flatMap edges3).Nodup) {f n : Nat} {out : List Int} {W : List Nat} {out' : List Int} {c o : Nat} (hI : OfInv T f n out) (h : OfMid T f n out W out') (hc : c < 3 * T.length) (hW : c / 3 ∈ W) (ho : oppI T (c : Int) = (o : Int)) (h0 : 0 ≤ at_ out' (o / 3)) : o / 3 ∈ W := by
  refine Classical.byContradiction fun hne => ?_
  rw [h.old _ hne] at h0
  have := hI.adj o c (opp_some hc ho).1 (opp_back hE hc ho) h0
  rw [h.free _ hW] at this
  omega
theorem OfMid.add {T : List Tr} {f n : Nat} {out : List Int} {W : List Nat} {out' : List Int} {c o : Nat} (hI : OfInv T f n out) (h : OfMid T f n out W out') (hc : c < 3 * T.length) (hW : c / 3 ∈ W) (ho : oppI T (c : Int) = (o : Int)) (h0 : at_ out' (o / 3) < 0) : OfMid T f n out (W ++ [o / 3]) (out'.set (o / 3) (n : Int)) := by
  have hol := (opp_some hc ho).1
  have hot : o / 3 < T.length := by omega
  have hne : o / 3 ∉ W := fun e => by
    rw [h.lab _ e] at h0
    omega
  refine ⟨by simp [h.len], ?_, ?_, ?_, ?_, ?_, List.mem_append_left _ h.fin, ?_⟩
  · rw [List.nodup_append]
    exact ⟨h.nd, by simp, fun a ha b hb e => by rw [List.mem_singleton.1 hb] at e; exact hne (by rw [← e]; exact ha)⟩
  · intro x hx
    rcases List.mem_append.1 hx with hx | hx
    · exact h.lt x hx
    · rw [List.mem_singleton.1 hx]; exact hot
  · intro x hx
    rcases List.mem_append.1 hx with hx | hx
    · exact h.free x hx
    · rw [List.mem_singleton.1 hx]
      rw [h.old _ hne] at h0
      have := (hI.lo (o / 3) hot).1
      omega
  · intro x hx
    rw [at_set (by rw [h.len]; exact hot)]
    rcases List.mem_append.1 hx with hx | hx
    · rw [if_neg (fun e => hne (by rw [← e]; exact hx))]
      exact h.lab x hx
    · rw [List.mem_singleton.1 hx, if_pos rfl]
  · intro j hj
    rw [at_set (by rw [h.len]; exact hot), if_neg (fun e => hj (by simp [e]))]
    exact h.old j (fun e => hj (List.mem_append_left _ e))
  · intro x hx
    rcases List.mem_append.1 hx with hx | hx
    · exact h.reach x hx
    · rw [List.mem_singleton.1 hx]
      exact Reach.step (h.reach _ hW) hc ho
/-- All across from W are of W: part n is whole. -/
theorem OfMid.finish {T : List Tr} {f n : Nat} {out : List Int} {W : List Nat} {out' : List Int} (hI : OfInv T f n out) (hf : f < T.length) (h : OfMid T f n out W out') (hcl : ∀ c o : Nat, c < 3 * T.length → c / 3 ∈ W → oppI T (c : Int) = (o : Int) → o / 3 ∈ W) : OfInv T (f + 1) (n + 1) out' :=
  OfBfs.finish hI hf ⟨h.len, h.nd, h.lt, h.free, h.lab, h.old, h.fin, h.reach, fun p k' u _ hu hk' o ho => by
    have hm := List.mem_of_getElem? hu
    have hul := h.lt u hm
    exact hcl (3 * u + k') o (by omega) (by rw [show (3 * u + k') / 3 = u from by omega]; exact hm) ho⟩
theorem OfMid.small {T : List Tr} {f n : Nat} {out : List Int} {W : List Nat} {out' : List Int} (h : OfMid T f n out W out') : W.length ≤ T.length := by
  have := Jor.nodup_le (m := List.range T.length) h.nd (fun x hx => List.mem_range.2 (h.lt x hx))
  simpa using this
end Go.Proofs.YtghlnknncahkgaaGreat
