/-
  Texts joined by program, what the law uses alone: From ApR SymP StbP SymW SymG Stb2.
-/
import Derived.Deep.RegionHeld3
import Derived.Deep.DeepCutAuto
import Derived.Deep.AppendLies
import Derived.Deep.Upon
import Derived.Sort.LotA
import Derived.Shelf.SlSortCmp.KitK
import Derived.Sort.WalkB2
import Derived.Sort.WalkB12
import Derived.Deep.LoopGhost
import Derived.Test.YtpnkhgjjlionnaaG5
import Derived.Test.YtpnkhgjjlionnaaG1
import Derived.Test.YtpnkhgjjlionnaaG4
namespace Go.Proofs.Ytpnkhgjjlionnaa
open Go.RowKit Go.Maps

theorem infoPt : (Try.prog.info? 162).map (fun i => (i.zero, i.size, i.bytes)) = some (some (.agg #[.int .i64 0, .int .i64 0, .int .i64 0]), 3, 24) := by kernel_rfl
theorem intsV_three (R : List Int) (x y z : Int) : intsV (R ++ [x, y, z]) = intsV R ++ [.int .i64 x, .int .i64 y, .int .i64 z] := by simp [intsV]
theorem intsV_one1 (R : List Int) (x : Int) : intsV (R ++ [x]) = intsV R ++ [.int .i64 x] := by simp [intsV]
theorem own_len1 {W : World} {base : Nat} {v : Value} {R : List Int} {x : Int} {us : List Value} (e : intsV (R ++ [x]) = us) (h : W.ownsRow base 3 1 v (R.length + 1) us) : W.ownsRow base 3 1 v (R ++ [x]).length (intsV (R ++ [x])) := by
  rw [e, List.length_append]
  exact h
theorem ne_new {v : Value} {q g n : Nat} (h : v.ownBlock ≠ some q) (hat : v.ownBlock = some g ∨ g = n) (hq : q < n) {k c : Nat} : (Value.slice (some ⟨g, 0, none⟩) k c).ownBlock ≠ some q := by
  intro e
  have e2 : g = q := by simpa [Value.ownBlock] using e
  subst e2
  rcases hat with h2 | h2
  · exact h h2
  · omega
theorem far_q {W : World} {x q : Nat} {cs ds : Array Value} (hx : Blk W x 142 cs) (hq : Blk W q 3 ds) (i : Nat) (u : Value) : Blk (W.setCell ⟨x, i, none⟩ u) q 3 ds :=
  hq.far (p := ⟨x, i, none⟩) (fun e => hx.ne_ hq (by decide) e.symm) u
theorem own_len3 {W : World} {base : Nat} {v : Value} {R : List Int} {x y z : Int} {us : List Value} (e : intsV (R ++ [x, y, z]) = us) (h : W.ownsRow base 3 1 v (R.length + 3) us) : W.ownsRow base 3 1 v (R ++ [x, y, z]).length (intsV (R ++ [x, y, z])) := by
  rw [e, List.length_append]
  exact h
theorem or_le {A : Prop} {g n : Nat} (h : A ∨ g = n) : A ∨ n ≤ g := h.imp id (fun e => by rw [e]; exact Nat.le_refl _)
theorem fourF {w : World} {b : Nat} {t : TypeId} {x0 x1 x2 x3 : Value} (h : Blk w b t #[x0, x1, x2, x3]) : b < w.heap.size ∧ w.cell? ⟨b, 0, none⟩ = some x0 ∧ w.cell? ⟨b, 1, none⟩ = some x1 ∧ w.cell? ⟨b, 2, none⟩ = some x2 ∧ w.cell? ⟨b, 3, none⟩ = some x3 :=
  ⟨h.lt, h.cell 0, h.cell 1, h.cell 2, h.cell 3⟩
theorem sixF {w : World} {b : Nat} {t : TypeId} {x0 x1 x2 x3 x4 x5 : Value} (h : Blk w b t #[x0, x1, x2, x3, x4, x5]) : b < w.heap.size ∧ w.cell? ⟨b, 0, none⟩ = some x0 ∧ w.frozen? ⟨b, 0, none⟩ = false ∧ w.cell? ⟨b, 1, none⟩ = some x1 ∧ w.frozen? ⟨b, 1, none⟩ = false ∧ w.cell? ⟨b, 2, none⟩ = some x2 ∧ w.frozen? ⟨b, 2, none⟩ = false ∧ w.cell? ⟨b, 3, none⟩ = some x3 ∧ w.frozen? ⟨b, 3, none⟩ = false ∧ w.cell? ⟨b, 4, none⟩ = some x4 ∧ w.frozen? ⟨b, 4, none⟩ = false ∧ w.cell? ⟨b, 5, none⟩ = some x5 ∧ w.frozen? ⟨b, 5, none⟩ = false :=
  ⟨h.lt, h.cell 0, h.frozen 0, h.cell 1, h.frozen 1, h.cell 2, h.frozen 2, h.cell 3, h.frozen 3, h.cell 4, h.frozen 4, h.cell 5, h.frozen 5⟩
section
variable {w w0 : World} {b : Nat} {t : TypeId} {x0 x1 x2 x3 x4 x5 : Value} (y0 y1 y2 y3 y4 y5 : Value)
/-- Six cells are stored, one behind the other. -/
def set6 (w : World) (b : Nat) (y0 y1 y2 y3 y4 y5 : Value) : World := (((((w.setCell ⟨b, 0, none⟩ y0).setCell ⟨b, 1, none⟩ y1).setCell ⟨b, 2, none⟩ y2).setCell ⟨b, 3, none⟩ y3).setCell ⟨b, 4, none⟩ y4).setCell ⟨b, 5, none⟩ y5
theorem blk_set6 (h : Blk w b t #[x0, x1, x2, x3, x4, x5]) : Blk (set6 w b y0 y1 y2 y3 y4 y5) b t #[y0, y1, y2, y3, y4, y5] := by
  have := (((((h.set_ 0 y0).set_ 1 y1).set_ 2 y2).set_ 3 y3).set_ 4 y4).set_ 5 y5
  simpa [set6] using this
theorem own_set6 {base n s : Nat} {e : TypeId} {v : Value} {xs : List Value} (hr : w.ownsRow base e s v n xs) (h : Blk w b t #[x0, x1, x2, x3, x4, x5]) (hne : e ≠ t) : (set6 w b y0 y1 y2 y3 y4 y5).ownsRow base e s v n xs :=
  own_alloc_st (own_alloc_st (own_alloc_st (own_alloc_st (own_alloc_st (own_alloc_st hr h hne) (h.set_ 0 y0) hne) ((h.set_ 0 y0).set_ 1 y1) hne) (((h.set_ 0 y0).set_ 1 y1).set_ 2 y2) hne) ((((h.set_ 0 y0).set_ 1 y1).set_ 2 y2).set_ 3 y3) hne) (((((h.set_ 0 y0).set_ 1 y1).set_ 2 y2).set_ 3 y3).set_ 4 y4) hne
theorem below_set6 {B : Nat} (h : Below B w0 w) (hb : B ≤ b) : Below B w0 (set6 w b y0 y1 y2 y3 y4 y5) :=
  (((((h.setCell (p := ⟨b, 0, none⟩) hb y0).setCell (p := ⟨b, 1, none⟩) hb y1).setCell (p := ⟨b, 2, none⟩) hb y2).setCell (p := ⟨b, 3, none⟩) hb y3).setCell (p := ⟨b, 4, none⟩) hb y4).setCell (p := ⟨b, 5, none⟩) hb y5
end
set_option maxRecDepth 100000 in
set_option maxHeartbeats 4000000 in
theorem from_any (g : Nat) (N : Int) (T : List Tr) (w : World) (c : Nat) (bN : Int) (bT bP bK : Value) (P : List Tr) (K : List Int) (hbT : ∃ a n m, bT = .slice a n m) (hP : TrisRd w bP P) (hK : IntsRd w bK K) (hT : Tab w g N T) (hc : c < 3 * T.length)
    (hPl : P ≠ [] → (P.length : Int) = N) (hKl : K ≠ [] → K.length = 3 * T.length) :
    Calls Try.prog 84 #[.pointer (some ⟨g, 0, none⟩), .agg #[.int .i64 bN, bT, bP, bK], .int .i64 (c : Int)] w fun e w' => ∃ cs, e = .returned (.agg cs) ∧ RecOwn w' w.heap.size cs (fromM T P K c) ∧ Below w.heap.size w w' := by
  obtain ⟨aB, nB, mB, rfl⟩ := hbT
  have HPr := Lib.hid (fun (W : World) (hW : Below w.heap.size w W) => hP.below hW)
  have HKr := Lib.hid (fun (W : World) (hW : Below w.heap.size w W) => hK.below hW)
  obtain ⟨aP, cP, rfl, hcP, hcP2, -⟩ := hP
  obtain ⟨aK, cK, rfl, hcK, -⟩ := hK
  obtain ⟨nP, hnP⟩ : ∃ nP, P.length = nP := ⟨_, rfl⟩
  obtain ⟨nK, hnK⟩ : ∃ nK, K.length = nK := ⟨_, rfl⟩
  rw [hnP] at hcP HPr hPl ⊢
  rw [hnK] at hcK HKr hKl ⊢
  have HnP := Lib.hid hnP
  have HnK := Lib.hid hnK
  clear hnP hnK
  have hB0 : Below w.heap.size w ((w.alloc (.cells #[.int .i64 bN, .slice aB nB mB, .slice aP nP cP, .slice aK nK cK] 98)).alloc (.cells #[.slice none 0 0, .int .i64 0, .slice none 0 0, .slice none 0 0, .slice none 0 0, .slice none 0 0] 142)) := ((Below.refl _ _).alloc (Nat.le_refl _) _).alloc (by simp) _
  have bb := (Blk.new w 98 #[.int .i64 bN, .slice aB nB mB, .slice aP nP cP, .slice aK nK cK]).alloc (.cells #[.slice none 0 0, .int .i64 0, .slice none 0 0, .slice none 0 0, .slice none 0 0, .slice none 0 0] 142)
  have br : Blk ((w.alloc (.cells #[.int .i64 bN, .slice aB nB mB, .slice aP nP cP, .slice aK nK cK] 98)).alloc (.cells #[.slice none 0 0, .int .i64 0, .slice none 0 0, .slice none 0 0, .slice none 0 0, .slice none 0 0] 142)) (w.heap.size + 1) 142 #[.slice none 0 0, .int .i64 0, .slice none 0 0, .slice none 0 0, .slice none 0 0, .slice none 0 0] := blk_new_at (by simp)
  have HR := Lib.hid (rooted_any g N T _ c (hT.below hB0) hc)
  have HT := Lib.hid (fun (W : World) (hW : Below w.heap.size w W) => hT.below hW)
  have HIn := Lib.hid (fun (d : Nat) (hd : d < 3 * T.length) => vertN_in hT.inr hd)
  obtain ⟨hn2, hn3, hn4⟩ := rtN_lens hc
  have hTl := hT.len
  have HN2 := Lib.hid hn2
  clear hn2
  have HPl := Lib.hid hPl
  have HKl := Lib.hid hKl
  have HB := Lib.hid hB0
  have HBb := Lib.hid bb
  have HBr := Lib.hid br
  clear hB0 hT hPl hKl bb br
  go_enter Try.func84, Try.ntmps84
  go_wp2_with (go_at_call 28; go_loud (refine HR.out.mono ?_; rintro e w1 ⟨vT, vO, vC, rfl, hrT, hrO, hrC, hb1⟩; have hHRT : TrisRd w1 vT (rtN T c).2 := TrisRd.of_row hrT; have HRW := Lib.hid (fun (W : World) (hW : Below w1.heap.size w1 W) => row_any ((rtN T c).1.length : Int) vT (rtN T c).2 W (hHRT.below hW) (by have := HN2.out; omega)); obtain ⟨aT, cT, rfl⟩ := ownsRow_slice hrT; obtain ⟨aO, cO, rfl⟩ := ownsRow_slice hrO; obtain ⟨aC, cC, rfl⟩ := ownsRow_slice hrC))
  obtain ⟨nT, hnT⟩ : ∃ nT, (rtN T c).2.length = nT := ⟨_, rfl⟩
  obtain ⟨nO, hnO⟩ : ∃ nO, (rtN T c).1.length = nO := ⟨_, rfl⟩
  obtain ⟨nC, hnC⟩ : ∃ nC, (rtL T c).length = nC := ⟨_, rfl⟩
  have hn2 := HN2.out
  rw [hnT] at hrT HRW hn2 ⊢
  rw [hnO] at hrO HRW hn4 ⊢
  rw [hnC] at hrC hn2 hn3 ⊢
  have bs := Blk.new w1 24 #[.int .i64 (nO : Int), .slice aT nT cT]
  obtain ⟨p7, s0, -, s1, -⟩ := bs.two
  have HBs := Lib.hid bs
  have HB1 := Lib.hid hb1
  have HBd := Lib.hid ((((Below.refl w1.heap.size w1).alloc (Nat.le_refl _) (.cells #[.int .i64 (nO : Int), .slice aT nT cT] 24)).drew))
  have HrT := Lib.hid hrT
  have HrO := Lib.hid hrO
  have HrC := Lib.hid hrC
  have HnT := Lib.hid hnT
  have HnO := Lib.hid hnO
  have HnC := Lib.hid hnC
  have hnTl : nT ≤ 8192 := by omega
  clear hrT hrO hrC hb1 hHRT bs hnT hnO hnC hn2
  have HBd2 := Lib.hid (((((Below.refl w1.heap.size w1).alloc (Nat.le_refl _) (.cells #[.int .i64 (nO : Int), .slice aT nT cT] 24)).alloc (by simp) (.cells #[.slice none 0 0, .int .i64 0, .slice none 0 0, .slice none 0 0, .slice none 0 0, .slice none 0 0] 142))).drew)
  have hbx : Blk (((w1.alloc (.cells #[.int .i64 (nO : Int), .slice aT nT cT] 24)).alloc (.cells #[.slice none 0 0, .int .i64 0, .slice none 0 0, .slice none 0 0, .slice none 0 0, .slice none 0 0] 142)).drew) (w1.heap.size + 1) 142 #[.slice none 0 0, .int .i64 0, .slice none 0 0, .slice none 0 0, .slice none 0 0, .slice none 0 0] := Blk.drew (blk_new_at (by simp))
  have HBx := Lib.hid hbx
  clear hbx
  go_cut [10] (fun v10 W => ∃ x vR, v10 = .pointer (some ⟨x, 0, none⟩) ∧ FrSt w1 W x (nO : Int) (.slice aT nT cT) (.slice aO nO cO) (rowM (nO : Int) (rtN T c).2) [] [] vR (.slice none 0 0) (.slice none 0 0))
  case first =>
    go_region_held3 (fun w' => w'.cell? ⟨w1.heap.size, 0, none⟩ = some (.int .i64 (nO : Int)) ∧ w'.cell? ⟨w1.heap.size, 1, none⟩ = some (.slice aT nT cT)) (go_keep)
      (first
      | (go_at_call 61; with_reducible refine (HRW.out _ HBd.out).mono ?_; rintro e wA ⟨vR, rfl, hA, hbA⟩; have hk := HBs.out.drew.below hbA HBs.out.drew.lt; obtain ⟨-, u0, -, u1, -⟩ := hk.two; obtain ⟨aR, cR, rfl⟩ := ownsRow_slice hA)
      | (go_at_call 61; go_loud (with_reducible refine (HRW.out _ HBd2.out).mono ?_); rintro e wA ⟨vR, rfl, hA, hbA⟩; have hk := (HBs.out.alloc (.cells #[.slice none 0 0, .int .i64 0, .slice none 0 0, .slice none 0 0, .slice none 0 0, .slice none 0 0] 142)).drew.below hbA (HBs.out.alloc _).drew.lt; obtain ⟨-, u0, -, u1, -⟩ := hk.two; have hkx := HBx.out.below hbA HBx.out.lt; obtain ⟨lx, y0, f0, y1, f1, y2, f2, y3, f3, y4, f4, y5, f5⟩ := sixF hkx; obtain ⟨aR, cR, rfl⟩ := ownsRow_slice hA))
    · go_wp2_with fail
      go_meet
      have hz := hbA.size
      have hb9 : Below w1.heap.size w1 wA := HBd.out.trans (hbA.mono HBd.out.size)
      exact ⟨wA.heap.size, _, rfl, Blk.new wA _ _, by rw [rowM_len, HnT.out]; exact (own_lower hA HBd.out.size).alloc _, World.ownsRow_nil _ _ _ _, World.ownsRow_nil _ _ _ _, fun j e => (by simp [Value.ownBlock]), hb9.alloc hb9.size _, hb9.size⟩
    · go_wp2_with fail
      go_meet
      have hb9 : Below w1.heap.size w1 wA := HBd2.out.trans (hbA.mono HBd2.out.size)
      exact ⟨w1.heap.size + 1, _, rfl, blk_set6 _ _ _ _ _ _ hkx, by have := own_set6 (.slice aR (2 + 3 * nT) cR) (.int .i64 (nO : Int)) (.slice aT nT cT) (.slice none 0 0) (.slice none 0 0) (.slice aO nO cO) (own_lower hA HBd2.out.size) hkx (by decide); rw [rowM_len, HnT.out]; exact this, World.ownsRow_nil _ _ _ _, World.ownsRow_nil _ _ _ _, fun j e => (by simp [Value.ownBlock]), below_set6 _ _ _ _ _ _ hb9 (by omega), by omega⟩
  case rest =>
    obtain ⟨x, vR, rfl, hF⟩ := hcut
    rename World => W2
    have HF := Lib.hid hF
    have HBb1 := Lib.hid (HBb.out.below HB1.out HBb.out.lt)
    have HB1b := Lib.hid (HB.out.trans (HB1.out.mono HB.out.size))
    have HBb2 := Lib.hid ((HBb.out.below HB1.out HBb.out.lt).below hF.bel (by have := HBb.out.lt; have := HB1.out.size; omega))
    obtain ⟨i2, hj2, hz0, hz1, hz2⟩ := info_parts infoInt
    obtain ⟨i3, hj3, hy0, hy1, hy2⟩ := info_parts infoPt
    have hxw := hF.xle
    have hw1 := HB1.out.size
    have hw1' : w.heap.size ≤ w1.heap.size := HB1b.out.size
    have hBb2 := HBb2.out
    obtain ⟨lb, b0, b1, b2, b3⟩ := fourF hBb2
    clear hF hBb2 HBd HBd2 HBx HBs p7 s0 s1
    go_upto_if 34 with (fail)
    go_cut [] (fun W => ∃ vR vP, FrSt w1 W x (nO : Int) (.slice aT nT cT) (.slice aO nO cO) (rowM (nO : Int) (rtN T c).2 ++ flatT (paintL P (rtN T c).1)) (paintL P (rtN T c).1) [] vR vP (.slice none 0 0))
    case first =>
      by_cases hP0 : P = []
      · have HF2 := Lib.hid (show FrSt w1 W2 x (nO : Int) (.slice aT nT cT) (.slice aO nO cO) (rowM (nO : Int) (rtN T c).2 ++ flatT (paintL P (rtN T c).1)) (paintL P (rtN T c).1) [] vR (.slice none 0 0) (.slice none 0 0) from by
          have e : paintL P (rtN T c).1 = [] := by unfold paintL; rw [if_pos hP0]
          rw [e]
          have e2 : rowM (nO : Int) (rtN T c).2 ++ flatT [] = rowM (nO : Int) (rtN T c).2 := by simp [flatT]
          rw [e2]
          exact HF.out)
        have h0 : nP = 0 := by rw [← HnP.out, hP0]; rfl
        subst h0
        clear hP0
        go_wp2
        go_meet
        exact ⟨_, _, HF2.out⟩
      · have hp0 : 0 < nP := by rw [← HnP.out]; exact List.length_pos_iff.2 hP0
        have HPN := Lib.hid (HPl.out hP0)
        have HP0 := Lib.hid hP0
        clear hP0
        have hdT : decide (0 < nP) = true := by simpa using hp0
        simp only [hdT]
        go_wp2
        clear b0 b1 b2 b3 lb hp0 hdT
        have HI0 := Lib.hid (show FrSt w1 W2 x (nO : Int) (.slice aT nT cT) (.slice aO nO cO) (rowM (nO : Int) (rtN T c).2 ++ flatT (paintF P ((rtN T c).1.take 0))) (paintF P ((rtN T c).1.take 0)) [] vR (.slice none 0 0) (.slice none 0 0) from by
          have e : paintF P ((rtN T c).1.take 0) = [] := rfl
          rw [e]
          have e2 : rowM (nO : Int) (rtN T c).2 ++ flatT [] = rowM (nO : Int) (rtN T c).2 := by simp [flatT]
          rw [e2]
          exact HF.out)
        go_loopw [37] (fun i wr => ∃ k : Nat, k ≤ nO ∧ i = .int .i64 k ∧ ∃ vR vP, FrSt w1 wr x (nO : Int) (.slice aT nT cT) (.slice aO nO cO) (rowM (nO : Int) (rtN T c).2 ++ flatT (paintF P ((rtN T c).1.take k))) (paintF P ((rtN T c).1.take k)) [] vR vP (.slice none 0 0)) (fun i _ => nO - (intOf i).toNat)
        case atStart => exact ⟨0, Nat.zero_le _, rfl, _, _, HI0.out⟩
        case round =>
          rename World => wr
          obtain ⟨k, hk, rfl, vR', vP, hI⟩ := hrel
          by_cases hlt : k < nO
          · have hkO : k < (rtN T c).1.length := by rw [HnO.out]; exact hlt
            obtain ⟨d, hd1, hd2⟩ := rtN_in hc (List.getElem_mem hkO)
            have hb9 := hI.bel
            have hrO := own_below HrO.out hb9
            obtain ⟨gO, capO, eO, -, -⟩ := hrO.form (by omega)
            cases eO
            obtain ⟨vn, hvn⟩ : ∃ vn : Nat, (rtN T c).1[k] = (vn : Int) := ⟨((rtN T c).1[k]).toNat, by have h9 := HIn.out d hd1; rw [hd2]; omega⟩
            have hvP : vn < nP := by have h9 := HIn.out d hd1; have h8 := HPN.out; omega
            have hcO : wr.cell? ⟨gO, k, none⟩ = some (.int .i64 (vn : Int)) := by
              rw [hrO.cellAt k (by omega)]
              unfold intsV
              rw [List.getElem?_map, List.getElem?_eq_getElem hkO, hvn]
              rfl
            obtain ⟨⟨px, py, pz⟩, hp⟩ : ∃ q, P[vn]? = some q := ⟨P[vn]'(by rw [HnP.out]; exact hvP), List.getElem?_eq_getElem _⟩
            have hPr := HPr.out wr (HB1b.out.trans (hb9.mono HB1b.out.size))
            obtain ⟨a', c', e', -, -, hr3⟩ := hPr
            rw [HnP.out] at e'
            cases e'
            obtain ⟨bP, oP, rfl, hbP, s0, s1, s2⟩ := hr3 vn px py pz hp
            have HTk := Lib.hid (paintF_take (P := P) (old := (rtN T c).1) (k := k) (v := (vn : Int)) (by rw [List.getElem?_eq_getElem hkO, hvn]))
            have Hp := Lib.hid (show P.getD ((vn : Int)).toNat (0, 0, 0) = (px, py, pz) from by simp [List.getD, hp])
            obtain ⟨Pk, hPk⟩ : ∃ Pk, paintF P ((rtN T c).1.take k) = Pk := ⟨_, rfl⟩
            obtain ⟨Rk, hRk⟩ : ∃ Rk, rowM (nO : Int) (rtN T c).2 ++ flatT Pk = Rk := ⟨_, rfl⟩
            have HLk := Lib.hid (show Pk.length = k ∧ Rk.length ≤ 200000 from by
              have e1 : Pk.length = k := by rw [← hPk, paintF_len, List.length_take]; omega
              refine ⟨e1, ?_⟩
              rw [← hRk, List.length_append, rowM_len, flatT_length, e1]
              have := HnT.out
              omega)
            rw [hPk] at hI HTk
            rw [hRk] at hI
            rw [Hp.out] at HTk
            have HRk := Lib.hid hRk
            obtain ⟨lb, b0, b1, b2, b3⟩ := fourF (HBb1.out.below hb9 HBb1.out.lt)
            obtain ⟨lx, y0, f0, y1, f1, y2, f2, y3, f3, y4, f4, y5, f5⟩ := sixF hI.bx
            have hvP' : (vn : Int) < (nP : Int) := by omega
            have hz9 := hb9.size
            have hltP := hI.rP.lt
            have HltP := Lib.hid hltP
            have HI := Lib.hid hI
            have hki : (k : Int) < (nO : Int) := by omega
            clear hI hrO hd2 hd1 hPk hRk hp hltP hr3 hb9 hvn hkO
            go_upto_region 8 with fail
            go_upto_region 9 with (first
              | (at_builtin; go_loud (refine wpList_append_lies _ rfl (.tmp 48) (.tmp 50) 96 rfl w1.heap.size 162 i3 _ 3 24 Try.underlying96 hj3 hy0 hy1 hy2 rfl (by decide) _ _ _ rfl ((HI.out.alloc (.cells #[.int .i64 px, .int .i64 py, .int .i64 pz] 162)).alloc (.cells #[.int .i64 px, .int .i64 py, .int .i64 pz] 162)).rP ⟨wr.heap.size + 1, 0, none⟩ 1 1 [.int .i64 px, .int .i64 py, .int .i64 pz] rfl rfl (World.news_of_block (blk_new_at (by simp))) (by simp [Value.oneCell']) (by decide) (by have := HLk.out; unfold maxLen; omega) (by have := HLk.out; omega) (by simp; omega) (wr.heap.size + 1 + 1) (by simp) ?_); intro g8 cap8 W8 hr8 hg8 hat8 hlt8; have h9 := ((HI.out.alloc (.cells #[.int .i64 px, .int .i64 py, .int .i64 pz] 162)).alloc (.cells #[.int .i64 px, .int .i64 py, .int .i64 pz] 162)).appP hg8 (P4 := Pk ++ [(px, py, pz)]) (by rw [ws3_snoc, List.length_append]; exact hr8); obtain ⟨lx8, z0, q0, z1, q1, z2, q2, z3, q3, z4, q4, z5, q5⟩ := sixF h9.1; have HF8 := Lib.hid h9.2; have hBx8 := h9.1; have hpt8 := ((Blk.new wr 162 #[.int .i64 px, .int .i64 py, .int .i64 pz]).alloc (.cells #[.int .i64 px, .int .i64 py, .int .i64 pz] 162)).grown hg8 (fun e => by have := (HltP.out _ e.symm).2; omega); have HPt8 := Lib.hid hpt8; have hNe8 := Lib.hid (Blk.ne_ hpt8 hBx8 (by decide)); clear hr8 hg8 hat8 hlt8 h9 hpt8 hBx8))
            have hpt9 := HPt8.out.far (p := ⟨x, 3, none⟩) (fun e => (hNe8.out e).elim) (.slice (some ⟨g8, 0, none⟩) (Pk.length + 1) cap8)
            generalize W8.setCell _ _ = W9 at *
            have HPt9 := Lib.hid hpt9.drew
            have HF9 := Lib.hid HF8.out.drew
            clear y0 f0 y1 f1 y2 f2 y3 f3 y4 f4 y5 f5 z0 q0 z1 q1 z2 q2 z3 q3 z4 q4 z5 q5 lx lx8 b0 b1 b2 b3 lb s0 s1 s2 hcO HPt8 hpt9
            obtain ⟨lx, y0, f0, -⟩ := sixF HF8.out.bx
            have HNw9 := Lib.hid (show ∀ (j : Nat) (u : Value), [Value.int .i64 px, .int .i64 py, .int .i64 pz][j]? = some u → W9.drew.cell? ((⟨wr.heap.size, 0, none⟩ : Addr).add j) = some u from World.news_of_block HPt9.out)
            have c9 : Rk.length + 3 ≤ maxLen := by have := HLk.out; unfold maxLen; omega
            have c8 : (Rk.length + 3) * 8 ≤ 140737488355328 := by have := HLk.out; omega
            have HrR9 := Lib.hid HF9.out.rR
            have hbe9 := HF9.out.bel.size
            go_region_law
              ((first
              | (refine step_append_lies W9.drew (by rfl) (.tmp 55) (.tmp 56) 35 (by rfl) w1.heap.size 3 i2 _ 1 8 Try.underlying35 hj2 hz0 hz1 hz2 (by rfl) (by decide) vR' Rk.length (intsV Rk) (by rfl) HrR9.out ⟨wr.heap.size, 0, none⟩ 3 3 [.int .i64 px, .int .i64 py, .int .i64 pz] (by rfl) (by rfl) HNw9.out (by simp [Value.oneCell']) (by decide) c9 c8 hbe9 _ rfl ?_; go_loud (intro g9 cap9 W10 hr9 hg9 hat9 hlt9; have e9 : intsV (Rk ++ [px, py, pz]) = intsV Rk ++ [.int .i64 px, .int .i64 py, .int .i64 pz] := (intsV_three Rk px py pz); have h9r : W10.ownsRow w1.heap.size 3 1 (.slice (some ⟨g9, 0, none⟩) (Rk.length + 3) cap9) (Rk ++ [px, py, pz]).length (intsV (Rk ++ [px, py, pz])) := (own_len3 e9 hr9); have h10 := HF9.out.appR hg9 (v4 := .slice (some ⟨g9, 0, none⟩) (Rk.length + 3) cap9) rfl h9r (or_le hat9); obtain ⟨lxA, z0, q0, -⟩ := sixF h10.1; have HF10 := Lib.hid h10.2; clear hr9 hg9 hat9 hlt9 h10))))
            all_goals
              go_wp2
              go_roundw
              case measure => simp [intOf]; omega
              case rel => exact ⟨k + 1, by omega, by go_num, _, _, by rw [HTk.out]; have e9 : rowM (nO : Int) (rtN T c).2 ++ flatT (Pk ++ [(px, py, pz)]) = Rk ++ [px, py, pz] := (by rw [flatT_snoc, ← List.append_assoc, HRk.out]); rw [e9]; exact HF10.out⟩
          · obtain rfl : k = nO := by omega
            have HI := Lib.hid (show FrSt w1 wr x (k : Int) (.slice aT nT cT) (.slice aO k cO) (rowM (k : Int) (rtN T c).2 ++ flatT (paintL P (rtN T c).1)) (paintL P (rtN T c).1) [] vR' vP (.slice none 0 0) from by
              have e : paintL P (rtN T c).1 = paintF P ((rtN T c).1.take k) := by unfold paintL; rw [if_neg HP0.out, List.take_of_length_le (by rw [HnO.out]; exact Nat.le_refl _)]
              rw [e]
              exact hI)
            clear hI
            go_wp2
            go_meet
            exact ⟨_, _, HI.out⟩
    case rest =>
      obtain ⟨vR2, vP2, hF3⟩ := hcut
      rename World => W3
      have HF3 := Lib.hid hF3
      have hBb3 := HBb1.out.below hF3.bel HBb1.out.lt
      clear b0 b1 b2 b3 lb HBb2 HF
      obtain ⟨lb, b0, b1, b2, b3⟩ := fourF hBb3
      clear hF3 hBb3
      go_upto_if 63 with (fail)
      go_cut [] (fun W => ∃ vR vK, FrSt w1 W x (nO : Int) (.slice aT nT cT) (.slice aO nO cO) (rowM (nO : Int) (rtN T c).2 ++ (flatT (paintL P (rtN T c).1) ++ sideL K (rtL T c))) (paintL P (rtN T c).1) (sideL K (rtL T c)) vR vP2 vK)
      case first =>
        by_cases hK0 : K = []
        · have HF4 := Lib.hid (show FrSt w1 W3 x (nO : Int) (.slice aT nT cT) (.slice aO nO cO) (rowM (nO : Int) (rtN T c).2 ++ (flatT (paintL P (rtN T c).1) ++ sideL K (rtL T c))) (paintL P (rtN T c).1) (sideL K (rtL T c)) vR2 vP2 (.slice none 0 0) from by
            have e : sideL K (rtL T c) = [] := by unfold sideL; rw [if_pos hK0]
            rw [e, List.append_nil]
            exact HF3.out)
          have h0 : nK = 0 := by rw [← HnK.out, hK0]; rfl
          subst h0
          clear hK0
          go_wp2
          go_meet
          exact ⟨_, _, HF4.out⟩
        · have hk0 : 0 < nK := by rw [← HnK.out]; exact List.length_pos_iff.2 hK0
          have HKN := Lib.hid (HKl.out hK0)
          have HK0 := Lib.hid hK0
          have hdT : decide (0 < nK) = true := by simpa using hk0
          simp only [hdT]
          clear hK0
          go_wp2
          clear b0 b1 b2 b3 lb hk0 hdT
          have HI0 := Lib.hid (show FrSt w1 W3 x (nO : Int) (.slice aT nT cT) (.slice aO nO cO) (rowM (nO : Int) (rtN T c).2 ++ (flatT (paintL P (rtN T c).1) ++ sideF K ((rtL T c).take 0))) (paintL P (rtN T c).1) (sideF K ((rtL T c).take 0)) vR2 vP2 (.slice none 0 0) from by
            have e : sideF K ((rtL T c).take 0) = [] := rfl
            rw [e, List.append_nil]
            exact HF3.out)
          go_loopg [66] (nC) (fun gk i wr => ∃ k : Nat, k ≤ nC ∧ gk = nC - k ∧ i = .int .i64 k ∧ ∃ vR vK, FrSt w1 wr x (nO : Int) (.slice aT nT cT) (.slice aO nO cO) (rowM (nO : Int) (rtN T c).2 ++ (flatT (paintL P (rtN T c).1) ++ sideF K ((rtL T c).take k))) (paintL P (rtN T c).1) (sideF K ((rtL T c).take k)) vR vP2 vK)
          case atStart => exact ⟨0, Nat.zero_le _, rfl, rfl, _, _, HI0.out⟩
          case round =>
            rename World => wr
            obtain ⟨k, hk, hgk, rfl, vR', vK', hI⟩ := hrel
            by_cases hlt : k < nC
            · have hkC : k < (rtL T c).length := by rw [HnC.out]; exact hlt
              obtain ⟨d, hd⟩ : ∃ d, (rtL T c)[k] = d := ⟨_, rfl⟩
              have hdl : d < 3 * T.length := by rw [← hd]; exact (LOk.rtL hc).lt _ (List.getElem_mem hkC)
              have hb9 := hI.bel
              have hrC := own_below HrC.out hb9
              obtain ⟨gC, capC, eC, -, -⟩ := hrC.form (by omega)
              cases eC
              have hcC : wr.cell? ⟨gC, k, none⟩ = some (.int .i64 (d : Int)) := by
                rw [hrC.cellAt k (by omega)]
                unfold intsV nats
                rw [List.getElem?_map, List.getElem?_map, List.getElem?_eq_getElem hkC, hd]
                rfl
              have HTk := Lib.hid (sideF_take (K := K) (L := rtL T c) (k := k) (d := d) (by rw [List.getElem?_eq_getElem hkC, hd]))
              obtain ⟨Sk, hSk⟩ : ∃ Sk, sideF K ((rtL T c).take k) = Sk := ⟨_, rfl⟩
              obtain ⟨Rk, hRk⟩ : ∃ Rk, rowM (nO : Int) (rtN T c).2 ++ (flatT (paintL P (rtN T c).1) ++ Sk) = Rk := ⟨_, rfl⟩
              rw [hSk] at hI HTk
              rw [hRk] at hI
              have HLk := Lib.hid (show Sk.length ≤ 30000 ∧ Rk.length ≤ 200000 from by
                have e1 : Sk.length = 3 * k := by rw [← hSk, sideF_len, List.length_take]; omega
                refine ⟨by omega, ?_⟩
                rw [← hRk, List.length_append, List.length_append, rowM_len, flatT_length, e1]
                have e2 : (paintL P (rtN T c).1).length ≤ nO := by
                  unfold paintL
                  split
                  · exact Nat.zero_le _
                  · rw [paintF_len, HnO.out]; exact Nat.le_refl _
                have := HnT.out
                omega)
              have HRk := Lib.hid hRk
              have HDl := Lib.hid hdl
              have HTr := Lib.hid ((HT.out wr (HB1b.out.trans (hb9.mono HB1b.out.size))).toTabS)
              have hz9 := hb9.size
              have hki : (k : Int) < (nC : Int) := by omega
              have HI := Lib.hid hI
              have hNx : nextI T (d : Int) = ((Jor.nx d : Nat) : Int) := by simp [nextI, hasC_true (T := T) (c := (d : Int)) (by omega) (by omega)]
              have hPv : prevI T (d : Int) = ((Jor.pv d : Nat) : Int) := by simp [prevI, hasC_true (T := T) (c := (d : Int)) (by omega) (by omega)]
              have HNx := Lib.hid (show Calls Try.prog 63 #[.pointer (some ⟨g, 0, none⟩), .int .i64 (d : Int)] wr fun e w' => e = .returned (.int .i64 ((Jor.nx d : Nat) : Int)) ∧ wr = w' from by rw [← hNx]; exact next_any g N d T wr HTr.out)
              have HPv := Lib.hid (show Calls Try.prog 64 #[.pointer (some ⟨g, 0, none⟩), .int .i64 (d : Int)] wr fun e w' => e = .returned (.int .i64 ((Jor.pv d : Nat) : Int)) ∧ wr = w' from by rw [← hPv]; exact prev_any g N d T wr HTr.out)
              clear hI hrC hSk hRk hb9 hd hkC hdl hNx hPv
              go_upto_region 16 with (first
                | (go_at_call 63; refine HNx.out.mono ?_; rintro e Wp ⟨rfl, rfl⟩)
                | (go_at_call 64; refine HPv.out.mono ?_; rintro e Wp ⟨rfl, rfl⟩))
              have bq := Blk.new wr 3 #[.int .i64 (d : Int), .int .i64 ((Jor.nx d : Nat) : Int), .int .i64 ((Jor.pv d : Nat) : Int)]
              have HI0' := Lib.hid (HI.out.alloc (.cells #[.int .i64 (d : Int), .int .i64 ((Jor.nx d : Nat) : Int), .int .i64 ((Jor.pv d : Nat) : Int)] 3))
              obtain ⟨q, hq⟩ : ∃ q, wr.heap.size = q := ⟨_, rfl⟩
              rw [hq] at bq
              have Hbq := Lib.hid bq
              have hqz : w1.heap.size ≤ q := by omega
              have hqI : q < (wr.alloc (.cells #[.int .i64 (d : Int), .int .i64 ((Jor.nx d : Nat) : Int), .int .i64 ((Jor.pv d : Nat) : Int)] 3)).heap.size := bq.lt
              have Hne0 := Lib.hid (show vR'.ownBlock ≠ some q ∧ vK'.ownBlock ≠ some q from ⟨fun e => by have := (HI.out.rR.lt q e).2; omega, fun e => by have := (HI.out.rK.lt q e).2; omega⟩)
              rw [hq]
              generalize wr.alloc _ = Wq at *
              clear HI bq HNx HPv HTr hcC hqI hz9
              go_loopg [79] (3) (fun gj i w9 => ∃ j : Nat, j ≤ 3 ∧ gj = 3 - j ∧ i = .int .i64 j ∧ ∃ vR vK, FrSt w1 w9 x (nO : Int) (.slice aT nT cT) (.slice aO nO cO) (Rk ++ ([K.getD d 0, K.getD (Jor.nx d) 0, K.getD (Jor.pv d) 0].take j)) (paintL P (rtN T c).1) (Sk ++ ([K.getD d 0, K.getD (Jor.nx d) 0, K.getD (Jor.pv d) 0].take j)) vR vP2 vK ∧ Blk w9 q 3 #[.int .i64 (d : Int), .int .i64 ((Jor.nx d : Nat) : Int), .int .i64 ((Jor.pv d : Nat) : Int)] ∧ vR.ownBlock ≠ some q ∧ vK.ownBlock ≠ some q)
              case atStart => exact ⟨0, Nat.zero_le _, rfl, rfl, _, _, by simpa using HI0'.out, Hbq.out, Hne0.out⟩
              case round =>
                rename World => w9
                obtain ⟨j, hj, hgj, rfl, vR9, vK9, hI9, hbq9, hneR, hneK⟩ := hrel
                have HneR := Lib.hid hneR
                have HneK := Lib.hid hneK
                clear hneR hneK
                by_cases hlt9 : j < 3
                · obtain ⟨e, he1, he2, he3⟩ : ∃ e : Nat, e < 3 * T.length ∧ w9.cell? ⟨q, j, none⟩ = some (.int .i64 (e : Int)) ∧ [K.getD d 0, K.getD (Jor.nx d) 0, K.getD (Jor.pv d) 0].take (j + 1) = [K.getD d 0, K.getD (Jor.nx d) 0, K.getD (Jor.pv d) 0].take j ++ [K.getD e 0] := by
                    have h9 := HDl.out
                    rcases (by omega : j = 0 ∨ j = 1 ∨ j = 2) with rfl | rfl | rfl
                    · exact ⟨d, h9, hbq9.cell 0, rfl⟩
                    · exact ⟨Jor.nx d, nx_lt3 h9, hbq9.cell 1, rfl⟩
                    · exact ⟨Jor.pv d, pv_lt3 h9, hbq9.cell 2, rfl⟩
                  have heK : e < nK := by rw [HKN.out]; exact he1
                  have hKr := HKr.out w9 (HB1b.out.trans (hI9.bel.mono HB1b.out.size))
                  obtain ⟨a', c', e', -, hr3⟩ := hKr
                  rw [HnK.out] at e'
                  cases e'
                  obtain ⟨bK, oK, rfl, hbK, s0⟩ := hr3 e (K.getD e 0) (by rw [List.getElem?_eq_getElem (by rw [HnK.out]; exact heK)]; simp [List.getD, List.getElem?_eq_getElem (show e < K.length by rw [HnK.out]; exact heK)])
                  generalize hkd : K.getD e 0 = kd at *
                  have HKe := Lib.hid (show K[e]? = some kd from by rw [List.getElem?_eq_getElem (show e < K.length by rw [HnK.out]; exact heK), ← hkd]; simp [List.getD, List.getElem?_eq_getElem (show e < K.length by rw [HnK.out]; exact heK)])
                  have HT9 := Lib.hid he3
                  obtain ⟨Lj, hLj⟩ : ∃ Lj, [K.getD d 0, K.getD (Jor.nx d) 0, K.getD (Jor.pv d) 0].take j = Lj := ⟨_, rfl⟩
                  have hLl : Lj.length ≤ 3 := by rw [← hLj, List.length_take]; simp; omega
                  rw [hLj] at hI9 HT9
                  obtain ⟨R9, hR9⟩ : ∃ R9, Rk ++ Lj = R9 := ⟨_, rfl⟩
                  obtain ⟨S9, hS9⟩ : ∃ S9, Sk ++ Lj = S9 := ⟨_, rfl⟩
                  rw [hR9, hS9] at hI9
                  have HL9 := Lib.hid (show S9.length ≤ 30003 ∧ R9.length ≤ 200003 from by rw [← hR9, ← hS9, List.length_append, List.length_append]; have := HLk.out; omega)
                  have HR9 := Lib.hid hR9
                  have HS9 := Lib.hid hS9
                  have HLj := Lib.hid hLj
                  obtain ⟨lb, b0, b1, b2, b3⟩ := fourF (HBb1.out.below hI9.bel HBb1.out.lt)
                  obtain ⟨lx, y0, f0, y1, f1, y2, f2, y3, f3, y4, f4, y5, f5⟩ := sixF hI9.bx
                  have heI : (e : Int) < (nK : Int) := by omega
                  have hjI : (j : Int) < 3 := by omega
                  have HI9 := Lib.hid hI9
                  have Hbq9 := Lib.hid hbq9
                  clear hI9 hbq9 he1 he3 hr3 hkd hLj hR9 hS9 hLl HI0'
                  go_upto_region 18 with fail
                  have hba := HI9.out.alloc (.cells #[.int .i64 kd] 3)
                  have HIa := Lib.hid hba.drew
                  have hna : Blk (w9.alloc (.cells #[.int .i64 kd] 3)).drew w9.heap.size 3 #[.int .i64 kd] := (Blk.new w9 _ _).drew
                  have HNa := Lib.hid (show ∀ (j : Nat) (u : Value), [Value.int .i64 kd][j]? = some u → (w9.alloc (.cells #[.int .i64 kd] 3)).drew.cell? ((⟨w9.heap.size, 0, none⟩ : Addr).add j) = some u from World.news_of_block hna)
                  have HrKa := Lib.hid HIa.out.rK
                  have hbea := HIa.out.bel.size
                  have c9 : S9.length + 1 ≤ maxLen := by have := HL9.out; unfold maxLen; omega
                  have c8 : (S9.length + 1) * 8 ≤ 140737488355328 := by have := HL9.out; omega
                  have Hbqa := Lib.hid ((Hbq9.out.alloc (.cells #[.int .i64 kd] 3)).drew)
                  have HltK := Lib.hid (fun (j9 : Nat) (e9 : vK9.ownBlock = some j9) => (HI9.out.rK.lt j9 e9).2)
                  have HltR := Lib.hid (fun (j9 : Nat) (e9 : vR9.ownBlock = some j9) => (HI9.out.rR.lt j9 e9).2)
                  clear hba hna
                  go_cut [] (fun W => ∃ vK, FrSt w1 W x (nO : Int) (.slice aT nT cT) (.slice aO nO cO) R9 (paintL P (rtN T c).1) (S9 ++ [kd]) vR9 vP2 vK ∧ Blk W q 3 #[.int .i64 (d : Int), .int .i64 ((Jor.nx d : Nat) : Int), .int .i64 ((Jor.pv d : Nat) : Int)] ∧ vK.ownBlock ≠ some q)
                  case first =>
                    go_region_law
                      ((first
                      | (refine step_append_lies (w9.alloc (.cells #[.int .i64 kd] 3)).drew (by rfl) (.tmp 85) (.tmp 91) 35 (by rfl) w1.heap.size 3 i2 _ 1 8 Try.underlying35 hj2 hz0 hz1 hz2 (by rfl) (by decide) vK9 S9.length (intsV S9) (by rfl) HrKa.out ⟨w9.heap.size, 0, none⟩ 1 1 [.int .i64 kd] (by rfl) (by rfl) HNa.out (by simp [Value.oneCell']) (by decide) c9 c8 hbea _ rfl ?_; go_loud (intro g9 cap9 W10 hr9 hg9 hat9 hlt9; have e9 : intsV (S9 ++ [kd]) = intsV S9 ++ [.int .i64 kd] := (intsV_one1 S9 kd); have h9r : W10.ownsRow w1.heap.size 3 1 (.slice (some ⟨g9, 0, none⟩) (S9.length + 1) cap9) (S9 ++ [kd]).length (intsV (S9 ++ [kd])) := (own_len1 e9 hr9); have h10 := HIa.out.appK hg9 (v4 := .slice (some ⟨g9, 0, none⟩) (S9.length + 1) cap9) rfl h9r (or_le hat9); obtain ⟨lxA, z0, q0, z1, q1, z2, q2, z3, q3, z4, q4, z5, q5⟩ := sixF h10.1; have HF10 := Lib.hid h10.2; have hbq9' : Blk W10 q 3 #[.int .i64 (d : Int), .int .i64 ((Jor.nx d : Nat) : Int), .int .i64 ((Jor.pv d : Nat) : Int)] := Hbqa.out.grown hg9 (fun e => HneK.out e.symm); have Hbq10 := Lib.hid (far_q h10.1 hbq9' 4 (.slice (some ⟨g9, 0, none⟩) (S9.length + 1) cap9)); have Hnew := Lib.hid (ne_new HneK.out hat9 Hbqa.out.lt (k := S9.length + 1) (c := cap9)); clear hr9 hg9 hat9 hlt9 h10 e9 h9r hbq9'))))
                    all_goals
                      go_wp2_with fail
                      go_meet
                      exact ⟨_, HF10.out, Hbq10.out, Hnew.out⟩
                  case rest =>
                    obtain ⟨vK10, hI10, hbq10, hneK10⟩ := hcut
                    rename World => w10
                    have hsz := hI10.bel.size
                    have HI10 := Lib.hid hI10
                    have Hbq10 := Lib.hid hbq10
                    have HneK10 := Lib.hid hneK10
                    clear hneK10 HIa HNa HrKa hbea c9 c8 Hbqa HltK HltR y0 f0 y1 f1 y2 f2 y3 f3 y4 f4 y5 f5 lx b0 b1 b2 b3 lb s0
                    obtain ⟨lb, b0, b1, b2, b3⟩ := fourF (HBb1.out.below HI10.out.bel HBb1.out.lt)
                    obtain ⟨lx, y0, f0, y1, f1, y2, f2, y3, f3, y4, f4, y5, f5⟩ := sixF HI10.out.bx
                    have hKr := HKr.out w10 (HB1b.out.trans (HI10.out.bel.mono HB1b.out.size))
                    obtain ⟨a', c', e', -, hr3⟩ := hKr
                    rw [HnK.out] at e'
                    cases e'
                    obtain ⟨bK2, oK2, eK2, hbK2, s0⟩ := hr3 e kd HKe.out
                    cases eK2
                    have hba := HI10.out.alloc (.cells #[.int .i64 kd] 3)
                    have HIa := Lib.hid hba.drew
                    have hna : Blk (w10.alloc (.cells #[.int .i64 kd] 3)).drew w10.heap.size 3 #[.int .i64 kd] := (Blk.new w10 _ _).drew
                    have HNa := Lib.hid (show ∀ (j : Nat) (u : Value), [Value.int .i64 kd][j]? = some u → (w10.alloc (.cells #[.int .i64 kd] 3)).drew.cell? ((⟨w10.heap.size, 0, none⟩ : Addr).add j) = some u from World.news_of_block hna)
                    have HrRa := Lib.hid HIa.out.rR
                    have hbea := HIa.out.bel.size
                    have c9 : R9.length + 1 ≤ maxLen := by have := HL9.out; unfold maxLen; omega
                    have c8 : (R9.length + 1) * 8 ≤ 140737488355328 := by have := HL9.out; omega
                    have Hbqa := Lib.hid ((Hbq10.out.alloc (.cells #[.int .i64 kd] 3)).drew)
                    clear hba hna hr3
                    go_upto_region 19 with fail
                    go_region_law
                      ((first
                      | (refine step_append_lies (w10.alloc (.cells #[.int .i64 kd] 3)).drew (by rfl) (.tmp 96) (.tmp 102) 35 (by rfl) w1.heap.size 3 i2 _ 1 8 Try.underlying35 hj2 hz0 hz1 hz2 (by rfl) (by decide) vR9 R9.length (intsV R9) (by rfl) HrRa.out ⟨w10.heap.size, 0, none⟩ 1 1 [.int .i64 kd] (by rfl) (by rfl) HNa.out (by simp [Value.oneCell']) (by decide) c9 c8 hbea _ rfl ?_; go_loud (intro g9 cap9 W10 hr9 hg9 hat9 hlt9; have e9 : intsV (R9 ++ [kd]) = intsV R9 ++ [.int .i64 kd] := (intsV_one1 R9 kd); have h9r : W10.ownsRow w1.heap.size 3 1 (.slice (some ⟨g9, 0, none⟩) (R9.length + 1) cap9) (R9 ++ [kd]).length (intsV (R9 ++ [kd])) := (own_len1 e9 hr9); have h10 := HIa.out.appR hg9 (v4 := .slice (some ⟨g9, 0, none⟩) (R9.length + 1) cap9) rfl h9r (or_le hat9); obtain ⟨lxA, z0, q0, z1, q1, z2, q2, z3, q3, z4, q4, z5, q5⟩ := sixF h10.1; have HF10 := Lib.hid h10.2; have hbq9' : Blk W10 q 3 #[.int .i64 (d : Int), .int .i64 ((Jor.nx d : Nat) : Int), .int .i64 ((Jor.pv d : Nat) : Int)] := Hbqa.out.grown hg9 (fun e => HneR.out e.symm); have Hbq11 := Lib.hid (far_q h10.1 hbq9' 0 (.slice (some ⟨g9, 0, none⟩) (R9.length + 1) cap9)); have Hnew := Lib.hid (ne_new HneR.out hat9 Hbqa.out.lt (k := R9.length + 1) (c := cap9)); clear hr9 hg9 hat9 hlt9 h10 e9 h9r hbq9'))))
                    all_goals
                      have HI11 := Lib.hid (show FrSt w1 _ x (nO : Int) (.slice aT nT cT) (.slice aO nO cO) (Rk ++ ([K.getD d 0, K.getD (Jor.nx d) 0, K.getD (Jor.pv d) 0].take (j + 1))) (paintL P (rtN T c).1) (Sk ++ ([K.getD d 0, K.getD (Jor.nx d) 0, K.getD (Jor.pv d) 0].take (j + 1))) _ vP2 vK10 from by
                        rw [HT9.out, ← List.append_assoc, ← List.append_assoc, HR9.out, HS9.out]
                        exact HF10.out)
                      clear y0 f0 y1 f1 y2 f2 y3 f3 y4 f4 y5 f5 lx b0 b1 b2 b3 lb s0
                      go_wp2
                      go_roundg (3 - (j + 1))
                      case measure => omega
                      case rel => exact ⟨j + 1, by omega, rfl, by go_num, _, _, HI11.out, Hbq11.out, Hnew.out, HneK10.out⟩
                · obtain rfl : j = 3 := by omega
                  have HI11 := Lib.hid (show FrSt w1 w9 x (nO : Int) (.slice aT nT cT) (.slice aO nO cO) (rowM (nO : Int) (rtN T c).2 ++ (flatT (paintL P (rtN T c).1) ++ sideF K ((rtL T c).take (k + 1)))) (paintL P (rtN T c).1) (sideF K ((rtL T c).take (k + 1))) vR9 vP2 vK9 from by
                    rw [HTk.out, ← List.append_assoc, ← List.append_assoc, List.append_assoc (rowM (nO : Int) (rtN T c).2), HRk.out]
                    exact hI9)
                  clear hI9 hbq9 HI0'
                  go_wp2
                  go_roundg (nC - (k + 1))
                  case measure => omega
                  case rel => exact ⟨k + 1, by omega, rfl, by go_num, _, _, HI11.out⟩
            · obtain rfl : k = nC := by omega
              have HI := Lib.hid (show FrSt w1 wr x (nO : Int) (.slice aT nT cT) (.slice aO nO cO) (rowM (nO : Int) (rtN T c).2 ++ (flatT (paintL P (rtN T c).1) ++ sideL K (rtL T c))) (paintL P (rtN T c).1) (sideL K (rtL T c)) vR' vP2 vK' from by
                have e : sideL K (rtL T c) = sideF K ((rtL T c).take k) := by unfold sideL; rw [if_neg HK0.out, List.take_of_length_le (by rw [HnC.out]; exact Nat.le_refl _)]
                rw [e]
                exact hI)
              clear hI
              go_wp2
              go_meet
              exact ⟨_, _, HI.out⟩
      case rest =>
        obtain ⟨vR3, vK3, hF4⟩ := hcut
        rename World => W4
        obtain ⟨aR9, cR9, rfl⟩ := ownsRow_slice hF4.rR
        obtain ⟨aP9, cP9, rfl⟩ := ownsRow_slice hF4.rP
        obtain ⟨aK9, cK9, rfl⟩ := ownsRow_slice hF4.rK
        have HF4 := Lib.hid hF4
        have hBr4 := (HBr.out.below HB1.out HBr.out.lt).below hF4.bel (by have := HBr.out.lt; have := HB1.out.size; omega)
        have HBr4 := Lib.hid hBr4
        obtain ⟨lx, y0, f0, y1, f1, y2, f2, y3, f3, y4, f4, y5, f5⟩ := sixF hF4.bx
        obtain ⟨lr, z0, q0, z1, q1, z2, q2, z3, q3, z4, q4, z5, q5⟩ := sixF hBr4
        have hxr : x ≠ w.heap.size + 1 := by have := HBr.out.lt; have := HB1.out.size; omega
        clear hF4 hBr4
        generalize hnR : (rowM (nO : Int) (rtN T c).2 ++ (flatT (paintL P (rtN T c).1) ++ sideL K (rtL T c))).length = nR at *
        generalize hnP9 : (paintL P (rtN T c).1).length = nP9 at *
        generalize hnK9 : (sideL K (rtL T c)).length = nK9 at *
        have HnR := Lib.hid hnR
        have HnP9 := Lib.hid hnP9
        have HnK9 := Lib.hid hnK9
        clear hnR hnP9 hnK9
        have hrT4 := own_set6 (.slice aR9 nR cR9) (.int .i64 (nO : Int)) (.slice aT nT cT) (.slice aP9 nP9 cP9) (.slice aK9 nK9 cK9) (.slice aO nO cO) (own_below HrT.out HF4.out.bel) HBr4.out (by decide)
        have hrO4 := own_set6 (.slice aR9 nR cR9) (.int .i64 (nO : Int)) (.slice aT nT cT) (.slice aP9 nP9 cP9) (.slice aK9 nK9 cK9) (.slice aO nO cO) (own_below HrO.out HF4.out.bel) HBr4.out (by decide)
        have hrR4 := own_set6 (.slice aR9 nR cR9) (.int .i64 (nO : Int)) (.slice aT nT cT) (.slice aP9 nP9 cP9) (.slice aK9 nK9 cK9) (.slice aO nO cO) HF4.out.rR HBr4.out (by decide)
        have hrP4 := own_set6 (.slice aR9 nR cR9) (.int .i64 (nO : Int)) (.slice aT nT cT) (.slice aP9 nP9 cP9) (.slice aK9 nK9 cK9) (.slice aO nO cO) HF4.out.rP HBr4.out (by decide)
        have hrK4 := own_set6 (.slice aR9 nR cR9) (.int .i64 (nO : Int)) (.slice aT nT cT) (.slice aP9 nP9 cP9) (.slice aK9 nK9 cK9) (.slice aO nO cO) HF4.out.rK HBr4.out (by decide)
        have hbF := below_set6 (.slice aR9 nR cR9) (.int .i64 (nO : Int)) (.slice aT nT cT) (.slice aP9 nP9 cP9) (.slice aK9 nK9 cK9) (.slice aO nO cO) (HB1b.out.trans (HF4.out.bel.mono hw1')) (b := w.heap.size + 1) (by omega)
        have bF := blk_set6 (.slice aR9 nR cR9) (.int .i64 (nO : Int)) (.slice aT nT cT) (.slice aP9 nP9 cP9) (.slice aK9 nK9 cK9) (.slice aO nO cO) HBr4.out
        have HFin := Lib.hid (And.intro hrT4 (And.intro hrO4 (And.intro hrR4 (And.intro hrP4 (And.intro hrK4 hbF)))))
        have HbF := Lib.hid bF
        clear hrT4 hrO4 hrR4 hrP4 hrK4 hbF bF
        go_wp2
        obtain ⟨-, p0, -, p1, -, p2, -, p3, -, p4, -, p5, -⟩ := sixF HbF.out
        unfold set6 at HFin p0 p1 p2 p3 p4 p5
        refine bodyPost_ret (v := .agg #[.slice aR9 nR cR9, .int .i64 (nO : Int), .slice aT nT cT, .slice aP9 nP9 cP9, .slice aK9 nK9 cK9, .slice aO nO cO]) (by simp [results, Try.results84, go_sem, p0, p1, p2, p3, p4, p5]) rfl ?_
        obtain ⟨hrT4, hrO4, hrR4, hrP4, hrK4, hbF⟩ := HFin.out
        refine ⟨_, rfl, ⟨.slice aR9 nR cR9, .slice aT nT cT, .slice aP9 nP9 cP9, .slice aK9 nK9 cK9, .slice aO nO cO, ?_, ?_, ?_, ?_, ?_, ?_⟩, hbF⟩
        · have e9 : (fromM T P K c).N = (nO : Int) := by show (((rtN T c).1.length : Nat) : Int) = _; rw [HnO.out]
          rw [e9]
        · have e9 : (fromM T P K c).row = rowM (nO : Int) (rtN T c).2 ++ (flatT (paintL P (rtN T c).1) ++ sideL K (rtL T c)) := by rw [← HnO.out]; rfl
          rw [e9]
          exact own_lower hrR4 hw1'
        · show World.ownsRow _ _ _ _ _ (rtN T c).2.length (ws3 (rtN T c).2)
          rw [HnT.out]
          exact own_lower hrT4 (by simp; omega)
        · exact own_lower hrP4 hw1'
        · exact own_lower hrK4 hw1'
        · show World.ownsRow _ _ _ _ _ (rtN T c).1.length _
          rw [HnO.out]
          exact own_lower hrO4 (by simp; omega)
end Go.Proofs.Ytpnkhgjjlionnaa
namespace Go.Proofs.Ytpnkhgjjlionnaa
open Go.RowKit

theorem run_append_any {P : Program} (w : World) (base : Nat) (t ty e : TypeId) (i : TypeInfo) (z : Value) (size bytes : Nat) (ht : P.underlying t = some (.slice e)) (hi : P.info? e = some i) (hz : i.zero = some z)
    (hsize : i.size = size) (hby : i.bytes = bytes) (hzs : z.cells.size = size) (hsz : 0 < size) (v : Value) (n : Nat) (xs : List Value) (hown : w.ownsRow base e size v n xs)
    (b2 : Nat) (u : Value) (m : Nat) (news : List Value) (hsrc : w.ownsRow b2 e size u m news) (h1 : ∀ y ∈ news, y.oneCell' = true) (h63 : n + m ≤ maxLen) (hbytes : (n + m) * bytes ≤ 140737488355328) (hbase : base ≤ w.heap.size) :
    ∃ v' w', (Builtin.append_ #[t, t] ty #[v, u]).run P w = .ok v' w' ∧ w'.ownsRow base e size v' (n + m) (xs ++ news) ∧ w.grownBy w' v.ownBlock ∧ (v'.ownBlock = v.ownBlock ∨ v'.ownBlock = some w.heap.size) := by
  rcases hsrc.2 with ⟨e0, e1⟩ | ⟨g, cap, cur, e0, hb, hg, hc1, hc2, hc3, hc4⟩
  · subst e0
    have hm : m = 0 := e1
    subst hm
    have hn : news = [] := List.eq_nil_of_length_eq_zero (by rw [hsrc.1]; simp)
    subst hn
    refine ⟨v, w, ?_, by simpa using hown, World.grownBy.refl _ _, .inl rfl⟩
    obtain ⟨b, len, c, ev, hle⟩ : ∃ b len c, v = .slice b len c ∧ len ≤ c := by
      rcases hown.2 with ⟨e2, _⟩ | ⟨g, cap, cur, e2, _, _, hc, _⟩
      · exact ⟨_, _, _, e2, Nat.le_refl _⟩
      · exact ⟨_, _, _, e2, hc⟩
    subst ev
    exact run_append_nothing w t t ty e i ht hi b len c hle _ (Src.ofNil w ht 0)
  · subst e0
    have hcell : ∀ j y, news[j]? = some y → w.cell? ((⟨g, 0, none⟩ : Addr).add j) = some y := by
      intro j y hy
      have hj : j < m * size := by
        have := (List.getElem?_eq_some_iff.1 hy).1
        rw [hsrc.1] at this
        exact this
      have hadd : (⟨g, 0, none⟩ : Addr).add j = ⟨g, j, none⟩ := by unfold Addr.add; split <;> simp_all
      rw [hadd, hsrc.cellAt j hj, hy]
    obtain ⟨v', w', hr, h2, h3, -, h5⟩ := run_append_own_at (P := P) w base t ty e i z size bytes ht hi hz hsize hby hzs hsz v n xs hown ⟨g, 0, none⟩ m cap news hsrc.1 hcell h1 h63 hbytes hbase
    exact ⟨v', w', hr, h2, h3, h5⟩
theorem wp_append_any {P : Program} {w : World} {o : Oper} {a : Act} {K : Act → World → Prop} {Q : Exit → Act → World → Prop} (s x : Operand) (t : TypeId)
    (ho : o.op = .call { callee := .builtin .append, args := #[s, x], argTypes := #[t, t] })
    (base : Nat) (e : TypeId) (i : TypeInfo) (z : Value) (size bytes : Nat) (ht : P.underlying t = some (.slice e)) (hi : P.info? e = some i) (hz : i.zero = some z)
    (hsize : i.size = size) (hby : i.bytes = bytes) (hzs : z.cells.size = size) (hsz : 0 < size)
    (v : Value) (n : Nat) (xs : List Value) (hs : a.eval s = v) (hown : w.ownsRow base e size v n xs)
    (b2 : Nat) (u : Value) (m : Nat) (news : List Value) (hx : a.eval x = u) (hsrc : w.ownsRow b2 e size u m news) (h1 : ∀ y ∈ news, y.oneCell' = true) (h63 : n + m ≤ maxLen) (hbytes : (n + m) * bytes ≤ 140737488355328) (hbase : base ≤ w.heap.size)
    (h : ∀ v' w', w'.ownsRow base e size v' (n + m) (xs ++ news) → w.grownBy w' v.ownBlock → (v'.ownBlock = v.ownBlock ∨ v'.ownBlock = some w.heap.size) → K (a.put o.dst v') w') : o.wp P a w K Q := by
  obtain ⟨v', w', hr, h2, h3, h4⟩ := run_append_any (P := P) w base t o.type e i z size bytes ht hi hz hsize hby hzs hsz v n xs hown b2 u m news hsrc h1 h63 hbytes hbase
  unfold Oper.wp execOp
  simp only [ho, resolve, invoke, builtin, Sem.run_bind, Sem.run_pure, Result.andThen_ok, List.map_toArray, List.map_cons, List.map_nil, hs, hx, hr]
  exact h v' w' h2 h3 h4
/-- At the head of a list of operations. -/
theorem wpList_append_any {P : Program} (w : World) {ops : Array Oper} {rest : List Oper} {o : Oper} {a : Act} {Q : Exit → Act → World → Prop} (hgd : o.guard = none) (s x : Operand) (t : TypeId)
    (ho : o.op = .call { callee := .builtin .append, args := #[s, x], argTypes := #[t, t] })
    (base : Nat) (e : TypeId) (i : TypeInfo) (z : Value) (size bytes : Nat) (ht : P.underlying t = some (.slice e)) (hi : P.info? e = some i) (hz : i.zero = some z)
    (hsize : i.size = size) (hby : i.bytes = bytes) (hzs : z.cells.size = size) (hsz : 0 < size)
    (v : Value) (n : Nat) (xs : List Value) (hs : a.eval s = v) (hown : w.ownsRow base e size v n xs)
    (b2 : Nat) (u : Value) (m : Nat) (news : List Value) (hx : a.eval x = u) (hsrc : w.ownsRow b2 e size u m news) (h1 : ∀ y ∈ news, y.oneCell' = true) (h63 : n + m ≤ maxLen) (hbytes : (n + m) * bytes ≤ 140737488355328) (hbase : base ≤ w.heap.size)
    (h : ∀ v' w', w'.ownsRow base e size v' (n + m) (xs ++ news) → w.grownBy w' v.ownBlock → (v'.ownBlock = v.ownBlock ∨ v'.ownBlock = some w.heap.size) → wpList P ops Q rest (a.put o.dst v') w') : wpList P ops Q (o :: rest) a w :=
  wpList_plain hgd fun _ hK => wp_append_any s x t ho base e i z size bytes ht hi hz hsize hby hzs hsz v n xs hs hown b2 u m news hx hsrc h1 h63 hbytes hbase fun v' w' h2 h3 h4 => hK _ _ (h v' w' h2 h3 h4)
/-- At a step of a region that draws its order. -/
theorem step_append_any {P : Program} (w : World) {ops : Array Oper} {o : Oper} {a : Act} {K : Act → World → Prop} {Q : Exit → Act → World → Prop} {E : Prop} (hgd : o.guard = none) (s x : Operand) (t : TypeId)
    (ho : o.op = .call { callee := .builtin .append, args := #[s, x], argTypes := #[t, t] })
    (base : Nat) (e : TypeId) (i : TypeInfo) (z : Value) (size bytes : Nat) (ht : P.underlying t = some (.slice e)) (hi : P.info? e = some i) (hz : i.zero = some z)
    (hsize : i.size = size) (hby : i.bytes = bytes) (hzs : z.cells.size = size) (hsz : 0 < size)
    (v : Value) (n : Nat) (xs : List Value) (hs : a.eval s = v) (hown : w.ownsRow base e size v n xs)
    (b2 : Nat) (u : Value) (m : Nat) (news : List Value) (hx : a.eval x = u) (hsrc : w.ownsRow b2 e size u m news) (h1 : ∀ y ∈ news, y.oneCell' = true) (h63 : n + m ≤ maxLen) (hbytes : (n + m) * bytes ≤ 140737488355328) (hbase : base ≤ w.heap.size)
    (h : ∀ v' w', w'.ownsRow base e size v' (n + m) (xs ++ news) → w.grownBy w' v.ownBlock → (v'.ownBlock = v.ownBlock ∨ v'.ownBlock = some w.heap.size) → K (a.put o.dst v') w') :
    if Region.wanted o (yielded ops a.tmps) = true then Oper.wp P o a w K Q else E := by
  have hw : Region.wanted o (yielded ops a.tmps) = true := by simp [Region.wanted, hgd]
  rw [if_pos hw]
  exact wp_append_any s x t ho base e i z size bytes ht hi hz hsize hby hzs hsz v n xs hs hown b2 u m news hx hsrc h1 h63 hbytes hbase h
end Go.Proofs.Ytpnkhgjjlionnaa
namespace Go.Proofs.Ytpnkhgjjlionnaa
open Go.Sort

section
variable {α : Type} [Inhabited α]
/-- n places from a on are exchanged with n places from b on. -/
def swR (d : Array α) (a b : Nat) : Nat → Array α
  | 0 => d
  | n + 1 => swp (swR d a b n) (a + n) (b + n)
theorem swR_size (d : Array α) (a b n : Nat) : (swR d a b n).size = d.size := by
  induction n with
  | zero => rfl
  | succ n ih => show (swp _ _ _).size = _; rw [swp_size, ih]
/-- Where what lies at x behind the exchange came from. -/
def srI (a b n x : Nat) : Nat := if a ≤ x ∧ x < a + n then x + (b - a) else if b ≤ x ∧ x < b + n then x - (b - a) else x
theorem swR_get (d : Array α) {a b n : Nat} (h1 : a + n ≤ b) (h2 : b + n ≤ d.size) (x : Nat) : (swR d a b n)[x]! = d[srI a b n x]! := by
  induction n generalizing x with
  | zero =>
    show d[x]! = _
    congr 1
    unfold srI
    rw [if_neg (by omega), if_neg (by omega)]
  | succ n ih =>
    show (swp (swR d a b n) (a + n) (b + n))[x]! = _
    rw [swp_get _ (by rw [swR_size]; omega) (by rw [swR_size]; omega)]
    rw [ih (by omega) (by omega), ih (by omega) (by omega), ih (by omega) (by omega)]
    have e : ∀ u v : Nat, u = v → d[u]! = d[v]! := fun u v h => by rw [h]
    by_cases c1 : x = b + n
    · rw [if_pos c1]
      apply e
      unfold srI
      repeat' split
      all_goals omega
    · rw [if_neg c1]
      by_cases c2 : x = a + n
      · rw [if_pos c2]
        apply e
        unfold srI
        repeat' split
        all_goals omega
      · rw [if_neg c2]
        apply e
        unfold srI
        repeat' split
        all_goals omega
theorem swR_perm (d : Array α) {a b n lo hi : Nat} (h0 : lo ≤ a) (h1 : a + n ≤ b) (h2 : b + n ≤ hi) (h3 : hi ≤ d.size) : PermIn lo hi d (swR d a b n) := by
  induction n with
  | zero => exact permIn_refl d lo hi
  | succ n ih =>
    exact permIn_trans _ _ _ lo hi (ih (by omega) (by omega)) (swp_permIn _ lo hi (a + n) (b + n) (by omega) (by omega) (by omega) (by omega) (by rw [swR_size]; exact h3))
/-- Where what lies at x came from, when the places from p to q and those from q to r change sides. -/
def rotI (p q r x : Nat) : Nat := if x < p then x else if x < p + (r - q) then x + (q - p) else if x < r then x - (r - q) else x
/-- The places from p to q and those from q to r have changed sides. -/
def RotOk (d d' : Array α) (p q r : Nat) : Prop := (∀ lo hi, lo ≤ p → r ≤ hi → hi ≤ d.size → PermIn lo hi d d') ∧ ∀ x, d'[x]! = d[rotI p q r x]!
theorem RotOk.size {d d' : Array α} {p q r : Nat} (h : RotOk d d' p q r) (hr : r ≤ d.size) : d'.size = d.size := (h.1 0 d.size (Nat.zero_le _) hr (Nat.le_refl _)).1
theorem RotOk.id (d : Array α) {p q r : Nat} (h : p = q ∨ q = r) (h1 : p ≤ q) (h2 : q ≤ r) : RotOk d d p q r := by
  refine ⟨fun lo hi _ _ _ => permIn_refl d lo hi, fun x => ?_⟩
  congr 1
  unfold rotI
  split
  · rfl
  · split
    · omega
    · split <;> omega
theorem rot_step1 {d d' : Array α} {m i j : Nat} (hi : i ≤ m) (hij : j < i) (hj : 0 < j) (hs : m + j ≤ d.size) (h : RotOk (swR d (m - i) m j) d' (m - (i - j)) m (m + j)) : RotOk d d' (m - i) m (m + j) := by
  refine ⟨fun lo hi' h1 h2 h3 => permIn_trans _ _ _ lo hi' (swR_perm d h1 (by omega) h2 h3) (h.1 lo hi' (by omega) h2 (by rw [swR_size]; exact h3)), fun x => ?_⟩
  rw [h.2, swR_get d (by omega) (by omega)]
  congr 1
  unfold rotI srI
  repeat' split
  all_goals omega
theorem rot_step2 {d d' : Array α} {m i j : Nat} (hi : i ≤ m) (hij : i < j) (h0 : 0 < i) (hs : m + j ≤ d.size) (h : RotOk (swR d (m - i) (m + j - i) i) d' (m - i) m (m + (j - i))) : RotOk d d' (m - i) m (m + j) := by
  refine ⟨fun lo hi' h1 h2 h3 => permIn_trans _ _ _ lo hi' (swR_perm d h1 (by omega) (by omega) h3) (h.1 lo hi' h1 (by omega) (by rw [swR_size]; exact h3)), fun x => ?_⟩
  rw [h.2, swR_get d (by omega) (by omega)]
  congr 1
  unfold rotI srI
  repeat' split
  all_goals omega
theorem rot_end {d : Array α} {m i : Nat} (hi : i ≤ m) (hs : m + i ≤ d.size) : RotOk d (swR d (m - i) m i) (m - i) m (m + i) := by
  refine ⟨fun lo hi' h1 h2 h3 => swR_perm d h1 (by omega) h2 h3, fun x => ?_⟩
  rw [swR_get d (by omega) (by omega)]
  congr 1
  unfold rotI srI
  repeat' split
  all_goals omega
/-- One place is moved up by one. -/
theorem rot_up {d dk : Array α} {a k : Nat} (hak : a ≤ k) (hs : k + 1 < d.size) (h : RotOk d dk a (a + 1) (k + 1)) : RotOk d (swp dk k (k + 1)) a (a + 1) (k + 2) := by
  have hz := h.size (by omega)
  refine ⟨fun lo hi' h1 h2 h3 => permIn_trans _ _ _ lo hi' (h.1 lo hi' h1 (by omega) h3) (swp_permIn _ lo hi' k (k + 1) (by omega) (by omega) (by omega) (by omega) (by omega)), fun x => ?_⟩
  rw [swp_get _ (by omega) (by omega), h.2, h.2, h.2]
  have e : ∀ u v : Nat, u = v → d[u]! = d[v]! := fun u v h => by rw [h]
  by_cases c1 : x = k + 1
  · rw [if_pos c1]
    apply e
    unfold rotI
    repeat' split
    all_goals omega
  · rw [if_neg c1]
    by_cases c2 : x = k
    · rw [if_pos c2]
      apply e
      unfold rotI
      repeat' split
      all_goals omega
    · rw [if_neg c2]
      apply e
      unfold rotI
      repeat' split
      all_goals omega
/-- One place is moved down by one. -/
theorem rot_down {d dk : Array α} {k m : Nat} (hkm : k + 1 ≤ m) (hs : m < d.size) (h : RotOk d dk (k + 1) m (m + 1)) : RotOk d (swp dk (k + 1) k) k m (m + 1) := by
  have hz := h.size (by omega)
  refine ⟨fun lo hi' h1 h2 h3 => permIn_trans _ _ _ lo hi' (h.1 lo hi' (by omega) h2 h3) (swp_permIn _ lo hi' (k + 1) k (by omega) (by omega) (by omega) (by omega) (by omega)), fun x => ?_⟩
  rw [swp_get _ (by omega) (by omega), h.2, h.2, h.2]
  have e : ∀ u v : Nat, u = v → d[u]! = d[v]! := fun u v h => by rw [h]
  by_cases c1 : x = k
  · rw [if_pos c1]
    apply e
    unfold rotI
    repeat' split
    all_goals omega
  · rw [if_neg c1]
    by_cases c2 : x = k + 1
    · rw [if_pos c2]
      apply e
      unfold rotI
      repeat' split
      all_goals omega
    · rw [if_neg c2]
      apply e
      unfold rotI
      repeat' split
      all_goals omega
variable {lt : α → α → Bool}
/-- What symMerge does. -/
def MergeOk (lt : α → α → Bool) (a b : Nat) (d d' : Array α) : Prop := PermIn a b d d' ∧ SortedIn lt a b d'
theorem SortedIn.le (hS : SWO lt) {a b : Nat} {d : Array α} (h : SortedIn lt a b d) {i j : Nat} (h1 : a ≤ i) (h2 : i ≤ j) (h3 : j < b) : lt d[j]! d[i]! = false := by
  by_cases e : i = j
  · rw [e]; exact hS.irrefl _
  · exact h i j h1 (by omega) h3
/-- One element ahead of a row in order, put where it belongs. -/
theorem merge_one (hS : SWO lt) {d d' : Array α} {a b i : Nat} (hs : SortedIn lt (a + 1) b d) (hb : b ≤ d.size) (hi : a + 1 ≤ i) (hib : i ≤ b) (h1 : ∀ x, a + 1 ≤ x → x < i → lt d[x]! d[a]! = true) (h2 : ∀ x, i ≤ x → x < b → lt d[x]! d[a]! = false) (hR : RotOk d d' a (a + 1) i) : MergeOk lt a b d d' := by
  refine ⟨hR.1 a b (Nat.le_refl _) hib hb, fun x y hx hxy hy => ?_⟩
  rw [hR.2, hR.2]
  have ex : rotI a (a + 1) i x = if x < a + (i - (a + 1)) then x + 1 else if x < i then a else x := by
    unfold rotI
    split
    · omega
    · split
      · omega
      · split <;> omega
  have ey : rotI a (a + 1) i y = if y < a + (i - (a + 1)) then y + 1 else if y < i then a else y := by
    unfold rotI
    split
    · omega
    · split
      · omega
      · split <;> omega
  rw [ex, ey]
  by_cases cx : x < a + (i - (a + 1))
  · rw [if_pos cx]
    by_cases cy : y < a + (i - (a + 1))
    · rw [if_pos cy]
      exact hs (x + 1) (y + 1) (by omega) (by omega) (by omega)
    · rw [if_neg cy]
      by_cases cy2 : y < i
      · rw [if_pos cy2]
        exact hS.asymmA (h1 (x + 1) (by omega) (by omega))
      · rw [if_neg cy2]
        exact hs (x + 1) y (by omega) (by omega) hy
  · rw [if_neg cx, if_neg (show ¬ y < a + (i - (a + 1)) by omega)]
    by_cases cx2 : x < i
    · rw [if_pos cx2, if_neg (show ¬ y < i by omega)]
      exact h2 y (by omega) hy
    · rw [if_neg cx2, if_neg (show ¬ y < i by omega)]
      exact hs x y (by omega) hxy hy
/-- One element behind a row in order, put where it belongs. -/
theorem merge_last (hS : SWO lt) {d d' : Array α} {a m i : Nat} (hs : SortedIn lt a m d) (hb : m < d.size) (hi : a ≤ i) (him : i ≤ m) (h1 : ∀ x, a ≤ x → x < i → lt d[m]! d[x]! = false) (h2 : ∀ x, i ≤ x → x < m → lt d[m]! d[x]! = true) (hR : RotOk d d' i m (m + 1)) : MergeOk lt a (m + 1) d d' := by
  refine ⟨hR.1 a (m + 1) hi (Nat.le_refl _) hb, fun x y hx hxy hy => ?_⟩
  rw [hR.2, hR.2]
  have ez : ∀ z, z < m + 1 → rotI i m (m + 1) z = if z < i then z else if z = i then m else z - 1 := fun z hz => by
    unfold rotI
    repeat' split
    all_goals omega
  rw [ez x (by omega), ez y hy]
  by_cases cx : x < i
  · rw [if_pos cx]
    by_cases cy : y < i
    · rw [if_pos cy]
      exact hs x y hx hxy (by omega)
    · rw [if_neg cy]
      by_cases cy2 : y = i
      · rw [if_pos cy2]
        exact h1 x hx cx
      · rw [if_neg cy2]
        exact hs x (y - 1) hx (by omega) (by omega)
  · rw [if_neg cx, if_neg (show ¬ y < i by omega)]
    by_cases cx2 : x = i
    · rw [if_pos cx2, if_neg (show ¬ y = i by omega)]
      exact hS.asymmA (h2 (y - 1) (by omega) (by omega))
    · rw [if_neg cx2, if_neg (show ¬ y = i by omega)]
      exact hs (x - 1) (y - 1) (by omega) (by omega) (by omega)
/-- The two halves behind the turn. -/
structure Halves (lt : α → α → Bool) (a s mid e b : Nat) (d : Array α) : Prop where
  s1 : SortedIn lt a s d
  s2 : SortedIn lt s mid d
  s3 : SortedIn lt mid e d
  s4 : SortedIn lt e b d
  cross : ∀ x y, a ≤ x → x < mid → mid ≤ y → y < b → lt d[y]! d[x]! = false
theorem sym_mid (hS : SWO lt) {d d' : Array α} {a m b mid s e lo hi : Nat} (h1 : SortedIn lt a m d) (h2 : SortedIn lt m b d) (_ham : a ≤ m) (_hmb : m ≤ b) (_hmid : a ≤ mid ∧ mid ≤ b) (he : s + e = mid + m)
    (hlo : lo ≤ s) (hhi : s ≤ hi) (hl : lo = a ∧ hi = m ∨ lo + b = mid + m ∧ hi = mid) (hlo2 : a ≤ lo) (hhi2 : hi ≤ m) (hlo3 : mid + m ≤ lo + b) (hhi3 : hi ≤ mid)
    (c1 : lo < s → lt d[mid + m - 1 - (s - 1)]! d[s - 1]! = false) (c2 : s < hi → lt d[mid + m - 1 - s]! d[s]! = true) (hR : RotOk d d' s m e) : Halves lt a s mid e b d' := by
  have get : ∀ x, d'[x]! = d[rotI s m e x]! := hR.2
  -- who lies where
  have g1 : ∀ x, x < s → rotI s m e x = x := fun x hx => by unfold rotI; rw [if_pos hx]
  have g2 : ∀ x, s ≤ x → x < mid → rotI s m e x = x + (m - s) := fun x hx hm => by unfold rotI; rw [if_neg (by omega), if_pos (by omega)]
  have g3 : ∀ x, mid ≤ x → x < e → rotI s m e x = x - (e - m) := fun x hx hm => by unfold rotI; rw [if_neg (by omega), if_neg (by omega), if_pos hm]
  have g4 : ∀ x, e ≤ x → rotI s m e x = x := fun x hx => by
    unfold rotI
    rw [if_neg (by omega)]
    split
    · omega
    · rw [if_neg (by omega)]
  have hsm : s ≤ m := by omega
  have hme : m ≤ e := by omega
  have heb : e ≤ b := by omega
  have has : a ≤ s := by omega
  refine ⟨fun x y hx hxy hy => ?_, fun x y hx hxy hy => ?_, fun x y hx hxy hy => ?_, fun x y hx hxy hy => ?_, fun x y hx hxm hmy hy => ?_⟩
  · rw [get, get, g1 x (by omega), g1 y hy]
    exact h1 x y hx hxy (by omega)
  · rw [get, get, g2 x hx (by omega), g2 y (by omega) hy]
    exact h2 _ _ (by omega) (by omega) (by omega)
  · rw [get, get, g3 x hx (by omega), g3 y (by omega) hy]
    exact h1 _ _ (by omega) (by omega) (by omega)
  · rw [get, get, g4 x hx, g4 y (by omega)]
    exact h2 x y (by omega) hxy hy
  · rw [get, get]
    by_cases cx : x < s
    · rw [g1 x cx]
      by_cases cy : y < e
      · rw [g3 y hmy cy]
        exact h1 x _ hx (by omega) (by omega)
      · rw [g4 y (by omega)]
        -- x is at most s - 1, y at least e
        by_cases cl : lo < s
        · have q1 := c1 cl
          rw [show mid + m - 1 - (s - 1) = e from by omega] at q1
          have q2 := SortedIn.le hS h1 hx (show x ≤ s - 1 by omega) (by omega)
          have q3 := SortedIn.le hS h2 hme (show e ≤ y by omega) hy
          exact hS.ntrans _ _ _ q3 (hS.ntrans _ _ _ q1 q2)
        · omega
    · rw [g2 x (by omega) hxm]
      by_cases cy : y < e
      · rw [g3 y hmy cy]
        by_cases ch : s < hi
        · have q1 := hS.asymmA (c2 ch)
          have q2 := SortedIn.le hS h2 (show m ≤ x + (m - s) by omega) (show x + (m - s) ≤ mid + m - 1 - s by omega) (by omega)
          have q3 := SortedIn.le hS h1 (show a ≤ s by omega) (show s ≤ y - (e - m) by omega) (by omega)
          exact hS.ntrans _ _ _ q3 (hS.ntrans _ _ _ q1 q2)
        · omega
      · rw [g4 y (by omega)]
        exact SortedIn.le hS h2 (by omega) (by omega) hy
/-- The halves, each in order, are the whole in order. -/
theorem merge_join (_hS : SWO lt) {d d1 d2 d3 : Array α} {a s mid e b : Nat} (hb : b ≤ d.size) (ham : a ≤ mid) (hmb : mid ≤ b) (hp : PermIn a b d d1) (hH : Halves lt a s mid e b d1) (m1 : MergeOk lt a mid d1 d2) (m2 : MergeOk lt mid b d2 d3) : MergeOk lt a b d d3 := by
  have z1 : d1.size = d.size := hp.1
  have z2 : d2.size = d1.size := m1.1.1
  have q1 := permIn_mono d1 d2 a mid a b (Nat.le_refl _) hmb (by omega) m1.1
  have q2 := permIn_mono d2 d3 mid b a b ham (Nat.le_refl _) (by omega) m2.1
  refine ⟨permIn_trans _ _ _ a b hp (permIn_trans _ _ _ a b q1 q2), fun x y hx hxy hy => ?_⟩
  by_cases cy : y < mid
  · rw [m2.1.2.1 x (by omega), m2.1.2.1 y (by omega)]
    exact m1.2 x y hx hxy cy
  · by_cases cx : x < mid
    · -- crosswise
      have k1 := permIn_all d1 d2 a mid (fun u => ∀ z, mid ≤ z → z < b → lt d1[z]! u = false) (by omega) m1.1 (fun i hi hi2 z hz hz2 => hH.cross i z hi hi2 hz hz2)
      have k2 := permIn_all d2 d3 mid b (fun u => ∀ i, a ≤ i → i < mid → lt u d2[i]! = false) (by omega) m2.1 (fun z hz hz2 i hi hi2 => by
        rw [m1.1.2.1 z (by omega)]
        exact k1 i hi hi2 z hz hz2)
      rw [m2.1.2.1 x (by omega)]
      exact k2 y (by omega) hy x hx cx
    · exact m2.2 x y (by omega) hxy hy
/-- What is compared of the two rows is what the order says. -/
def Agr (cf : α → α → Int) (lt : α → α → Bool) (a m b : Nat) (d : Array α) : Prop := ∀ x y, a ≤ x → x < m → m ≤ y → y < b → decide (cf d[y]! d[x]! < 0) = lt d[y]! d[x]!
theorem agr_rot {cf : α → α → Int} {d d' : Array α} {a m b mid s e : Nat} (h : Agr cf lt a m b d) (hsm : s ≤ m) (hme : m ≤ e) (heb : e ≤ b) (has : a ≤ s) (he : s + e = mid + m) (_hsd : s ≤ mid) (_hmb : mid ≤ b) (hR : RotOk d d' s m e) : Agr cf lt a s mid d' ∧ Agr cf lt mid e b d' := by
  have get : ∀ x, d'[x]! = d[rotI s m e x]! := hR.2
  have g1 : ∀ x, x < s → rotI s m e x = x := fun x hx => by unfold rotI; rw [if_pos hx]
  have g2 : ∀ x, s ≤ x → x < mid → rotI s m e x = x + (m - s) := fun x hx hm => by unfold rotI; rw [if_neg (by omega), if_pos (by omega)]
  have g3 : ∀ x, mid ≤ x → x < e → rotI s m e x = x - (e - m) := fun x hx hm => by unfold rotI; rw [if_neg (by omega), if_neg (by omega), if_pos hm]
  have g4 : ∀ x, e ≤ x → rotI s m e x = x := fun x hx => by
    unfold rotI
    rw [if_neg (by omega)]
    split
    · omega
    · rw [if_neg (by omega)]
  constructor
  · intro x y h1 h2 h3 h4
    rw [get, get, g1 x h2, g2 y h3 h4]
    exact h x _ h1 (by omega) (by omega) (by omega)
  · intro x y h1 h2 h3 h4
    rw [get, get, g3 x h1 h2, g4 y h3]
    exact h _ y (by omega) (by omega) (by omega) h4
theorem Agr.same {cf : α → α → Int} {d d' : Array α} {a m b : Nat} (h : Agr cf lt a m b d) (he : ∀ x, a ≤ x → x < b → d'[x]! = d[x]!) : Agr cf lt a m b d' := fun x y h1 h2 h3 h4 => by
  rw [he x h1 (by omega), he y (by omega) h4]
  exact h x y h1 h2 h3 h4
theorem mergeOk_id {d : Array α} {a b : Nat} (h : SortedIn lt a b d) : MergeOk lt a b d d := ⟨permIn_refl d a b, h⟩
end
end Go.Proofs.Ytpnkhgjjlionnaa
namespace Go.Proofs.Ytpnkhgjjlionnaa
open Go.RowKit Go.Sort

theorem perm_sorted_unique {α : Type} {R : α → α → Prop} : ∀ {a b : List α}, a.Perm b → a.Pairwise R → b.Pairwise R → (∀ x ∈ a, ∀ y ∈ a, R x y → R y x → x = y) → a = b
  | [], b, h, _, _, _ => (List.Perm.nil_eq h)
  | x :: a, [], h, _, _, _ => by have := h.length_eq; simp at this
  | x :: a, y :: b, h, ha, hb, hu => by
    obtain ⟨a1, a2⟩ := List.pairwise_cons.1 ha
    obtain ⟨b1, b2⟩ := List.pairwise_cons.1 hb
    have hxy : x = y := by
      have hx : x ∈ y :: b := h.mem_iff.1 (List.mem_cons_self ..)
      have hy : y ∈ x :: a := h.mem_iff.2 (List.mem_cons_self ..)
      rcases List.mem_cons.1 hx with e | hx
      · exact e
      · rcases List.mem_cons.1 hy with e | hy
        · exact e.symm
        · exact hu x (List.mem_cons_self ..) y (List.mem_cons_of_mem _ hy) (a1 y hy) (b1 x hx)
    subst hxy
    rw [perm_sorted_unique (List.Perm.cons_inv h) a2 b2 (fun p hp q hq => hu p (List.mem_cons_of_mem _ hp) q (List.mem_cons_of_mem _ hq))]
/-- Elements with their places. -/
def tagL {β : Type} : Nat → List β → List (β × Nat)
  | _, [] => []
  | i, x :: r => (x, i) :: tagL (i + 1) r
section
variable {β : Type}
theorem tagL_fst : ∀ (i : Nat) (l : List β), (tagL i l).map (·.1) = l
  | _, [] => rfl
  | i, x :: r => by simp [tagL, tagL_fst (i + 1) r]
theorem tagL_len (i : Nat) (l : List β) : (tagL i l).length = l.length := by
  have := congrArg List.length (tagL_fst i l)
  simpa using this
theorem tagL_ge : ∀ (i : Nat) (l : List β), ∀ x ∈ tagL i l, i ≤ x.2
  | _, [], x, hx => by cases hx
  | i, y :: r, x, hx => by
    rcases List.mem_cons.1 hx with rfl | hx
    · exact Nat.le_refl _
    · have := tagL_ge (i + 1) r x hx
      omega
theorem tagL_up : ∀ (i : Nat) (l : List β), (tagL i l).Pairwise fun a b => a.2 < b.2
  | _, [] => List.Pairwise.nil
  | i, y :: r => List.pairwise_cons.2 ⟨fun x hx => by have := tagL_ge (i + 1) r x hx; simp only; omega, tagL_up (i + 1) r⟩
theorem tagL_one (i : Nat) (l : List β) : ∀ x ∈ tagL i l, ∀ y ∈ tagL i l, x.2 = y.2 → x = y := by
  intro x hx y hy e
  obtain ⟨j, hj, rfl⟩ := List.getElem_of_mem hx
  obtain ⟨k, hk, rfl⟩ := List.getElem_of_mem hy
  have hp := List.pairwise_iff_getElem.1 (tagL_up i l)
  rcases Nat.lt_trichotomy j k with h | h | h
  · have := hp j k hj hk h
    omega
  · subst h
    rfl
  · have := hp k j hk hj h
    omega
/-- First what the order says, then the places. -/
def ltT (cf : β → β → Int) (x y : β × Nat) : Bool := decide (cf x.1 y.1 < 0 ∨ cf x.1 y.1 = 0 ∧ x.2 < y.2)
def lt0 (cf : β → β → Int) (x y : β × Nat) : Bool := decide (cf x.1 y.1 < 0)
/-- What is asked of a comparison. -/
structure CfOk (cf : β → β → Int) : Prop where
  anti : ∀ x y, cf x y = - cf y x
  trans : ∀ x y z, cf x y ≤ 0 → cf y z ≤ 0 → cf x z ≤ 0
theorem CfOk.self {cf : β → β → Int} (h : CfOk cf) (x : β) : cf x x = 0 := by
  have := h.anti x x
  omega
theorem CfOk.swoT {cf : β → β → Int} (h : CfOk cf) : SWO (ltT cf) := by
  have key : ∀ x y z : β × Nat, ¬ (cf x.1 y.1 < 0 ∨ cf x.1 y.1 = 0 ∧ x.2 < y.2) → ¬ (cf y.1 z.1 < 0 ∨ cf y.1 z.1 = 0 ∧ y.2 < z.2) → ¬ (cf x.1 z.1 < 0 ∨ cf x.1 z.1 = 0 ∧ x.2 < z.2) := by
    intro x y z h1 h2 h3
    have a1 := h.anti x.1 y.1
    have a2 := h.anti y.1 z.1
    have a3 := h.anti x.1 z.1
    have t1 := h.trans z.1 y.1 x.1 (by omega) (by omega)
    have t2 := h.trans x.1 z.1 y.1
    have t3 := h.trans y.1 x.1 z.1
    by_cases c : cf x.1 z.1 = 0
    · have q1 := h.trans x.1 z.1 y.1 (by omega) (by omega)
      have q2 := h.trans y.1 x.1 z.1 (by omega) (by omega)
      omega
    · omega
  refine ⟨fun x => ?_, fun x y z h1 h2 => ?_, fun x y z h1 h2 => ?_⟩
  · unfold ltT
    have := h.self x.1
    exact decide_eq_false (by omega)
  · unfold ltT at h1 h2 ⊢
    have h1 := of_decide_eq_true h1
    have h2 := of_decide_eq_true h2
    refine decide_eq_true ?_
    have a1 := h.anti x.1 y.1
    have a2 := h.anti y.1 z.1
    have a3 := h.anti x.1 z.1
    have t1 := h.trans x.1 y.1 z.1 (by omega) (by omega)
    by_cases c : cf x.1 z.1 = 0
    · have q1 := h.trans z.1 x.1 y.1 (by omega) (by omega)
      have q2 := h.trans y.1 z.1 x.1 (by omega) (by omega)
      omega
    · omega
  · unfold ltT at h1 h2 ⊢
    exact decide_eq_false (key x y z (of_decide_eq_false h1) (of_decide_eq_false h2))
theorem CfOk.swo0 {cf : β → β → Int} (h : CfOk cf) : SWO (lt0 cf) := by
  refine ⟨fun x => ?_, fun x y z h1 h2 => ?_, fun x y z h1 h2 => ?_⟩
  · unfold lt0
    have := h.self x.1
    exact decide_eq_false (by omega)
  · unfold lt0 at h1 h2 ⊢
    have h1 := of_decide_eq_true h1
    have h2 := of_decide_eq_true h2
    refine decide_eq_true ?_
    have a1 := h.anti x.1 y.1
    have a2 := h.anti y.1 z.1
    have a3 := h.anti x.1 z.1
    have t1 := h.trans x.1 y.1 z.1 (by omega) (by omega)
    by_cases c : cf x.1 z.1 = 0
    · have q1 := h.trans z.1 x.1 y.1 (by omega) (by omega)
      omega
    · omega
  · unfold lt0 at h1 h2 ⊢
    have h1 := of_decide_eq_false h1
    have h2 := of_decide_eq_false h2
    refine decide_eq_false ?_
    have a1 := h.anti x.1 y.1
    have a2 := h.anti y.1 z.1
    have a3 := h.anti x.1 z.1
    have t1 := h.trans z.1 y.1 x.1 (by omega) (by omega)
    omega
/-- Where the places rise both orders say the same. -/
theorem lt_tag {cf : β → β → Int} {x y : β × Nat} (h : y.2 < x.2) : lt0 cf x y = ltT cf x y := by
  unfold lt0 ltT
  by_cases c : cf x.1 y.1 < 0
  · rw [decide_eq_true c, decide_eq_true (.inl c)]
  · rw [decide_eq_false c, decide_eq_false (by omega)]
theorem insB_congr {α : Type} {lt lt' : α → α → Bool} {l : List α} {x : α} (h : ∀ y ∈ l, lt x y = lt' x y) : insB lt l x = insB lt' l x := by
  unfold insB
  have hr : ∀ y ∈ l.reverse, lt x y = lt' x y := fun y hy => h y (List.mem_reverse.1 hy)
  generalize l.reverse = r at hr
  have e1 : r.dropWhile (lt x) = r.dropWhile (lt' x) ∧ r.takeWhile (lt x) = r.takeWhile (lt' x) := by
    induction r with
    | nil => exact ⟨rfl, rfl⟩
    | cons a r ih =>
      obtain ⟨i1, i2⟩ := ih (fun y hy => hr y (List.mem_cons_of_mem _ hy))
      have ha := hr a (List.mem_cons_self ..)
      simp only [List.dropWhile_cons, List.takeWhile_cons, ha, i1, i2]
      exact ⟨trivial, trivial⟩
  rw [e1.1, e1.2]
theorem sortB_tag (cf : β → β → Int) (i : Nat) (l : List β) : sortB (ltT cf) (tagL i l) = sortB (lt0 cf) (tagL i l) := by
  have key : ∀ (r m : List (β × Nat)), r.Pairwise (fun a b => a.2 < b.2) → (∀ y ∈ m, ∀ x ∈ r, y.2 < x.2) → r.foldl (insB (ltT cf)) m = r.foldl (insB (lt0 cf)) m := by
    intro r
    induction r with
    | nil => intro m _ _; rfl
    | cons a r ih =>
      intro m hp hm
      obtain ⟨p1, p2⟩ := List.pairwise_cons.1 hp
      have e : insB (ltT cf) m a = insB (lt0 cf) m a := insB_congr fun y hy => (lt_tag (hm y hy a (List.mem_cons_self ..))).symm
      rw [List.foldl_cons, List.foldl_cons, e]
      refine ih _ p2 fun y hy x hx => ?_
      have := (insB_perm (lt0 cf) m a).mem_iff.1 hy
      rcases List.mem_cons.1 this with rfl | h
      · exact p1 x hx
      · exact hm y h x (List.mem_cons_of_mem _ hx)
  exact key _ [] (tagL_up i l) (fun y hy => by cases hy)
end
/-! The library's sort of few, by both orders. -/
section
variable {α : Type} [Inhabited α]
theorem insInner_agree {lt lt' : α → α → Bool} (a : Nat) : ∀ (j : Nat) (d : Array α), j < d.size → (∀ k, a ≤ k → k < j → lt d[j]! d[k]! = lt' d[j]! d[k]!) → insInner lt a j d = insInner lt' a j d
  | 0, d, _, _ => by unfold insInner; rfl
  | j + 1, d, hj, h => by
    unfold insInner
    by_cases hja : j + 1 > a
    · rw [h j (by omega) (by omega)]
      by_cases hl : lt' d[j + 1]! d[j]! = true
      · rw [if_pos (by simp [hja, hl]), if_pos (by simp [hja, hl])]
        refine insInner_agree a j (swp d (j + 1) j) (by rw [swp_size]; omega) fun k hk hkj => ?_
        rw [swp_get _ hj (by omega), swp_get _ hj (by omega), if_pos rfl, if_neg (by omega), if_neg (by omega)]
        exact h k hk (by omega)
      · rw [if_neg (by simp [hl]), if_neg (by simp [hl])]
    · rw [if_neg (by simp [hja]), if_neg (by simp [hja])]
theorem insInner_perm {lt : α → α → Bool} (a hi : Nat) : ∀ (j : Nat) (d : Array α), a ≤ j → j < hi → hi ≤ d.size → PermIn a hi d (insInner lt a j d)
  | 0, d, _, _, _ => by unfold insInner; exact permIn_refl d a hi
  | j + 1, d, haj, hj, hs => by
    unfold insInner
    split
    · rename_i hc
      simp only [Bool.and_eq_true, decide_eq_true_eq] at hc
      exact permIn_trans _ _ _ a hi (swp_permIn d a hi (j + 1) j (by omega) hj (by omega) (by omega) hs) (insInner_perm a hi j _ (by omega) (by omega) (by rw [swp_size]; exact hs))
    · exact permIn_refl d a hi
end
section
variable {β : Type} [Inhabited β]
theorem insOuter_tag (cf : β → β → Int) (a b : Nat) : ∀ (N i : Nat) (d : Array (β × Nat)), b - i = N → a ≤ i → b ≤ d.size → (∀ k j, a ≤ k → k < j → i ≤ j → j < b → (d[k]!).2 < (d[j]!).2) → insOuter (lt0 cf) a b i d = insOuter (ltT cf) a b i d
  | 0, i, d, hN, _, _, _ => by
    rw [insOuter, if_neg (by omega)]
    rw [insOuter, if_neg (by omega)]
  | N + 1, i, d, hN, hai, hb, h => by
    rw [insOuter, if_pos (by omega)]
    conv => rhs; rw [insOuter, if_pos (by omega)]
    have e : insInner (lt0 cf) a i d = insInner (ltT cf) a i d := insInner_agree a i d (by omega) fun k hk hki => lt_tag (h k i hk hki (Nat.le_refl _) (by omega))
    rw [e]
    have hp := insInner_perm (lt := ltT cf) a (i + 1) i d hai (by omega) (by omega)
    refine insOuter_tag cf a b N (i + 1) _ (by omega) (by omega) (by rw [hp.1]; exact hb) fun k j hk hkj hij hjb => ?_
    rw [hp.2.1 j (by omega)]
    by_cases hki : k < i + 1
    · exact permIn_all d _ a (i + 1) (fun u => u.2 < (d[j]!).2) (by omega) hp (fun q hq hqi => h q j hq (by omega) (by omega) hjb) k hk hki
    · rw [hp.2.1 k (by omega)]
      exact h k j hk hkj (by omega) hjb
theorem insertion_tag (cf : β → β → Int) (a b : Nat) (d : Array (β × Nat)) (hb : b ≤ d.size) (h : ∀ k j, a ≤ k → k < j → j < b → (d[k]!).2 < (d[j]!).2) : insertionSort (lt0 cf) d a b = insertionSort (ltT cf) d a b := by
  unfold insertionSort
  exact insOuter_tag cf a b _ (a + 1) d rfl (by omega) hb (fun k j hk hkj _ hjb => h k j hk hkj hjb)
/-- What is sorted in two pieces and merged is what the sort of few makes. -/
theorem stable_unique {cf : β → β → Int} (hc : CfOk cf) {l : List β} {d : Array (β × Nat)} {n : Nat} (hn : l.length = n) (hM : MergeOk (ltT cf) 0 n (tagL 0 l).toArray d) : d.toList = sortB (lt0 cf) (tagL 0 l) := by
  rw [← sortB_tag]
  have hS := hc.swoT
  have hsz : d.size = n := by have := hM.1.1; rw [this]; simp [tagL_len, hn]
  have hex : ∀ e : Array (β × Nat), e.size = n → e.extract 0 n = e := fun e he => by rw [← he]; simp
  have hp : d.toList.Perm (tagL 0 l) := by
    have := hM.1.2.2
    rw [hex d hsz, hex _ (by simp [tagL_len, hn])] at this
    simpa using this
  refine perm_sorted_unique (R := fun a b => ltT cf b a = false) (hp.trans (sortB_perm _ _).symm) ?_ ?_ ?_
  · rw [List.pairwise_iff_getElem]
    intro i j hi hj hij
    have hi' : i < d.size := by simpa using hi
    have hj' : j < d.size := by simpa using hj
    have := hM.2 i j (Nat.zero_le _) hij (by omega)
    rw [getElem!_pos d i hi', getElem!_pos d j hj'] at this
    simpa using this
  · exact sortB_sorted (lt := ltT cf) (fun a b c h1 h2 => hS.ntrans c b a h2 h1) (fun a b h => hS.asymmA h) _
  · intro x hx y hy h1 h2
    refine tagL_one 0 l x (hp.mem_iff.1 hx) y (hp.mem_iff.1 hy) ?_
    unfold ltT at h1 h2
    have h1 := of_decide_eq_false h1
    have h2 := of_decide_eq_false h2
    have := hc.anti x.1 y.1
    omega
theorem tag_get {l : List β} {k j : Nat} (hkj : k < j) (hj : j < l.length) : ((tagL 0 l).toArray[k]!).2 < ((tagL 0 l).toArray[j]!).2 := by
  have hj' : j < (tagL 0 l).toArray.size := by simp [tagL_len]; exact hj
  rw [getElem!_pos _ k (by omega), getElem!_pos _ j hj']
  have := List.pairwise_iff_getElem.1 (tagL_up 0 l) k j (by rw [tagL_len]; omega) (by rw [tagL_len]; exact hj) hkj
  simpa using this
/-- The library's road for more than twenty and fewer than forty: two pieces, one merge. -/
theorem stable_plain {cf : β → β → Int} (hc : CfOk cf) {l : List β} {n : Nat} (hn : l.length = n) (h20 : 20 < n) {d0 d1 d2 : Array (β × Nat)} (e0 : d0 = (tagL 0 l).toArray) (e1 : d1 = insertionSort (lt0 cf) d0 0 20) (e2 : d2 = insertionSort (lt0 cf) d1 20 n) :
    d0.size = n ∧ d1.size = n ∧ d2.size = n ∧ (∀ x y, 0 ≤ x → x < 20 → 20 ≤ y → y < n → lt0 cf d2[y]! d2[x]! = ltT cf d2[y]! d2[x]!) ∧ SortedIn (ltT cf) 0 20 d2 ∧ SortedIn (ltT cf) 20 n d2 ∧ ∀ d', MergeOk (ltT cf) 0 n d2 d' → d'.toList = sortB (lt0 cf) (tagL 0 l) := by
  have hS := hc.swoT
  have s0 : d0.size = n := by rw [e0]; simp [tagL_len, hn]
  have t0 : ∀ k j, k < j → j < n → (d0[k]!).2 < (d0[j]!).2 := fun k j hkj hj => by rw [e0]; exact tag_get hkj (by omega)
  have f1 : d1 = insertionSort (ltT cf) d0 0 20 := by rw [e1]; exact insertion_tag cf 0 20 d0 (by omega) (fun k j _ hkj hj => t0 k j hkj (by omega))
  obtain ⟨p1, q1⟩ := insertionSort_holds hS d0 0 20 (by omega) (by omega)
  rw [← f1] at p1 q1
  have s1 : d1.size = n := by rw [p1.1, s0]
  have o1 : ∀ x, 20 ≤ x → d1[x]! = d0[x]! := fun x hx => p1.2.1 x (by omega)
  have f2 : d2 = insertionSort (ltT cf) d1 20 n := by rw [e2]; exact insertion_tag cf 20 n d1 (by omega) (fun k j hk hkj hj => by rw [o1 k hk, o1 j (by omega)]; exact t0 k j hkj hj)
  obtain ⟨p2, q2⟩ := insertionSort_holds hS d1 20 n (by omega) (by omega)
  rw [← f2] at p2 q2
  have s2 : d2.size = n := by rw [p2.1, s1]
  have o2 : ∀ x, x < 20 → d2[x]! = d1[x]! := fun x hx => p2.2.1 x (by omega)
  refine ⟨s0, s1, s2, ?_, ?_, q2, ?_⟩
  · intro x y _ hx hy hyn
    refine lt_tag ?_
    rw [o2 x hx]
    have a1 : ∀ z, 0 ≤ z → z < 20 → (d1[z]!).2 < (d0[20]!).2 := permIn_all d0 d1 0 20 (fun u => u.2 < (d0[20]!).2) (by omega) p1 (fun q _ hq => t0 q 20 hq (by omega))
    have a2 : ∀ z, 20 ≤ z → z < n → (d0[20]!).2 ≤ (d2[z]!).2 := permIn_all d1 d2 20 n (fun u => (d0[20]!).2 ≤ u.2) (by omega) p2 (fun q hq hqn => by
      rw [o1 q hq]
      by_cases h : q = 20
      · rw [h]; exact Nat.le_refl _
      · exact Nat.le_of_lt (t0 20 q (by omega) hqn))
    have := a1 x (by omega) hx
    have := a2 y hy hyn
    omega
  · intro x y hx hxy hy
    rw [o2 x (by omega), o2 y hy]
    exact q1 x y hx hxy hy
  · intro d' hM
    refine stable_unique hc hn ⟨?_, hM.2⟩
    rw [← e0]
    have w1 : PermIn 0 n d0 d1 := permIn_mono d0 d1 0 20 0 n (by omega) (by omega) (by omega) p1
    have w2 : PermIn 0 n d1 d2 := permIn_mono d1 d2 20 n 0 n (by omega) (by omega) (by omega) p2
    exact permIn_trans _ _ _ 0 n w1 (permIn_trans _ _ _ 0 n w2 hM.1)
end
end Go.Proofs.Ytpnkhgjjlionnaa
namespace Go.Proofs.Ytpnkhgjjlionnaa
open Go.RowKit Go.Sort Go.Lib

section
variable {α : Type} [Inhabited α]
set_option maxHeartbeats 4000000 in
set_option maxRecDepth 1000000 in
theorem swapRange_any (k : Nat) (zE : ∀ w, (Go.sizeOf 142).run Try.prog w = .ok k w) (enc : α → List Value) (g : Nat) (cb : Array Value) (blk off cap a b n : Nat) (d0 d : Array α) (w0 w : World)
    (R : RowK enc k w0 blk off d0) (hs : d0.size = d.size) (S : SWK enc k w0 blk off d w) (hab : a + n ≤ b) (hb : b + n ≤ d.size) (hsz : d.size < 4611686018427387904) :
    Calls Try.prog 147 #[.slice (some ⟨blk, off, none⟩) d.size cap, .int .i64 a, .int .i64 b, .int .i64 n, .func (.func g) #[] cb] w fun e w' => e = .returned (.tuple #[]) ∧ SWK enc k w0 blk off (swR d a b n) w' := by
  have mixed : Try.prog.follows .mixedOrders = true := by kernel_rfl
  have aE := isAggRc
  have S0 : Aside (SWK enc k w0 blk off d w) := S
  clear S
  go_enter Try.func147, Try.ntmps147
  go_wp2
  go_loopg [10] n (fun kx s10 wr => ∃ (i : Nat), s10 = .int .i64 i ∧ i ≤ n ∧ n - i ≤ kx ∧ Aside (SWK enc k w0 blk off (swR d a b i) wr))
  case atStart => exact ⟨0, rfl, Nat.zero_le _, by omega, S0⟩
  case round =>
    clear S0
    obtain ⟨i, rfl, hin, hkx, S1⟩ := hrel
    by_cases hlt : i < n
    · have hki : (i : Int) < (n : Int) := by omega
      have hds : (swR d a b i).size = d.size := swR_size d a b i
      generalize hdk : swR d a b i = dk at *
      go_wp2_with fail
      have ea44 : ((a : Int) + (i : Int)).toNat = a + i := by omega
      have pa44 : (0 : Int) ≤ (a : Int) + (i : Int) := by omega
      have ba44 : (a : Int) + (i : Int) < (d.size : Int) := by omega
      have ra44 : IntKind.i64.wrap ((a : Int) + (i : Int)) = (a : Int) + (i : Int) := by rw [IntKind.wrap_i64]; omega
      have ec44 : ((b : Int) + (i : Int)).toNat = b + i := by omega
      have pc44 : (0 : Int) ≤ (b : Int) + (i : Int) := by omega
      have bc44 : (b : Int) + (i : Int) < (d.size : Int) := by omega
      have rc44 : IntKind.i64.wrap ((b : Int) + (i : Int)) = (b : Int) + (i : Int) := by rw [IntKind.wrap_i64]; omega
      have S2 : Aside (SWK enc k w0 blk off (swp dk (a + i) (b + i)) ((wr.drew.setCells blk (off + (a + i) * k) (enc dk[b + i]!)).setCells blk (off + (b + i) * k) (enc dk[a + i]!))) := S1.out.swapped R (a + i) (b + i) (by omega) (by omega)
      have l44a := S1.out.ld1 R (by omega) Try.prog (a + i) (by omega)
      have l44b := S1.out.ld1 R (by omega) Try.prog (b + i) (by omega)
      have s44a := S1.out.st1 R (by omega) Try.prog (a + i) (by omega) dk[b + i]!
      have s44b := S1.out.st2 R (by omega) Try.prog (a + i) (b + i) (by omega) (by omega) dk[b + i]! dk[a + i]!
      have n44a : (enc dk[a + i]!).length = k := R.hk _
      have n44b : (enc dk[b + i]!).length = k := R.hk _
      generalize enc dk[a + i]! = cI44 at S2 l44a s44b n44a
      generalize enc dk[b + i]! = cJ44 at S2 l44b s44a s44b n44b
      clear S1
      go_wp2_with fail
      go_big_region_o
      clear l44a l44b s44a s44b
      generalize (wr.drew.setCells blk (off + (a + i) * k) cJ44).setCells blk (off + (b + i) * k) cI44 = w2 at S2 ⊢
      go_wp2
      go_roundg (n - (i + 1))
      case measure => omega
      case rel =>
        exact ⟨i + 1, by go_num, by omega, Nat.le_refl _, by rw [← hdk] at S2; exact S2⟩
    · obtain rfl : n = i := by omega
      go_wp2
      go_end0
      exact ⟨rfl, S1.out⟩
set_option maxHeartbeats 4000000 in
set_option maxRecDepth 1000000 in
theorem rotate_any (k : Nat) (zE : ∀ w, (Go.sizeOf 142).run Try.prog w = .ok k w) (enc : α → List Value) (g : Nat) (cb : Array Value) (blk off cap a m b : Nat) (d0 d : Array α) (w0 w : World)
    (R : RowK enc k w0 blk off d0) (hs : d0.size = d.size) (S : SWK enc k w0 blk off d w) (ham : a < m) (hmb : m < b) (hb : b ≤ d.size) (hsz : d.size < 4611686018427387904) :
    Calls Try.prog 142 #[.slice (some ⟨blk, off, none⟩) d.size cap, .int .i64 a, .int .i64 m, .int .i64 b, .func (.func g) #[] cb] w fun e w' => e = .returned (.tuple #[]) ∧ ∃ d', RotOk d d' a m b ∧ SWK enc k w0 blk off d' w' := by
  have S0 : Aside (SWK enc k w0 blk off d w) := S
  clear S
  go_enter Try.func142, Try.ntmps142
  go_wp2
  go_loopg [10, 11] (b - a) (fun kx s10 s11 wr => ∃ (i j : Nat) (dk : Array α), s10 = .int .i64 i ∧ s11 = .int .i64 j ∧ 0 < i ∧ 0 < j ∧ i ≤ m ∧ m + j ≤ d.size ∧ i + j ≤ kx ∧ dk.size = d.size ∧ Aside (SWK enc k w0 blk off dk wr) ∧ Hid (∀ d', RotOk dk d' (m - i) m (m + j) → RotOk d d' a m b))
  case atStart => exact ⟨m - a, b - m, d, by congr 1; omega, by congr 1; omega, by omega, by omega, by omega, by omega, by omega, rfl, S0, (by
    intro d' h
    rw [show m - (m - a) = a from by omega, show m + (b - m) = b from by omega] at h
    exact h)⟩
  case round =>
    clear S0
    obtain ⟨i, j, dk, rfl, rfl, hi0, hj0, him, hjm, hkx, hds, S1, HC⟩ := hrel
    by_cases hij : i = j
    · subst hij
      have e1 : ((m - i : Nat) : Int) = (m : Int) - (i : Int) := by omega
      have HS := Lib.hid (show Calls Try.prog 147 #[.slice (some ⟨blk, off, none⟩) d.size cap, .int .i64 ((m : Int) - (i : Int)), .int .i64 (m : Int), .int .i64 (i : Int), .func (.func g) #[] cb] wr _ from by
        have := swapRange_any k zE enc g cb blk off cap (m - i) m i d0 dk w0 wr R (by omega) S1.out (by omega) (by omega) (by omega)
        rw [hds, e1] at this
        exact this)
      have HR := Lib.hid (rot_end (d := dk) him (by omega))
      clear S1
      go_wp2_with (go_at_call 147; refine HS.out.mono ?_; rintro e w2 ⟨rfl, S2⟩)
      go_end0
      exact ⟨rfl, _, HC.out _ HR.out, S2⟩
    · have hne : ((i : Int) == (j : Int)) = false := by simp; omega
      have hne2 : ((i : Int) != (j : Int)) = true := by simp; omega
      by_cases hlt : j < i
      · have hgt : (j : Int) < (i : Int) := by omega
        have e1 : ((m - i : Nat) : Int) = (m : Int) - (i : Int) := by omega
        have HS := Lib.hid (show Calls Try.prog 147 #[.slice (some ⟨blk, off, none⟩) d.size cap, .int .i64 ((m : Int) - (i : Int)), .int .i64 (m : Int), .int .i64 (j : Int), .func (.func g) #[] cb] wr _ from by
          have := swapRange_any k zE enc g cb blk off cap (m - i) m j d0 dk w0 wr R (by omega) S1.out (by omega) (by omega) (by omega)
          rw [hds, e1] at this
          exact this)
        clear S1
        go_wp2_with (go_at_call 147; refine HS.out.mono ?_; rintro e w2 ⟨rfl, S2⟩)
        go_roundg (i - j + j)
        case measure => omega
        case rel => exact ⟨i - j, j, swR dk (m - i) m j, by congr 1; omega, rfl, by omega, hj0, by omega, hjm, Nat.le_refl _, by rw [swR_size]; exact hds, S2, (by
          intro d' h
          exact HC.out d' (rot_step1 him hlt hj0 (by omega) h))⟩
      · have hgt : ¬ (j : Int) < (i : Int) := by omega
        have e1 : ((m - i : Nat) : Int) = (m : Int) - (i : Int) := by omega
        have e2 : ((m + j - i : Nat) : Int) = (m : Int) + (j : Int) - (i : Int) := by omega
        have HS := Lib.hid (show Calls Try.prog 147 #[.slice (some ⟨blk, off, none⟩) d.size cap, .int .i64 ((m : Int) - (i : Int)), .int .i64 ((m : Int) + (j : Int) - (i : Int)), .int .i64 (i : Int), .func (.func g) #[] cb] wr _ from by
          have := swapRange_any k zE enc g cb blk off cap (m - i) (m + j - i) i d0 dk w0 wr R (by omega) S1.out (by omega) (by omega) (by omega)
          rw [hds, e1, e2] at this
          exact this)
        clear S1
        go_wp2_with (go_at_call 147; refine HS.out.mono ?_; rintro e w2 ⟨rfl, S2⟩)
        go_roundg (i + (j - i))
        case measure => omega
        case rel => exact ⟨i, j - i, swR dk (m - i) (m + j - i) i, rfl, by congr 1; omega, hi0, by omega, him, by omega, Nat.le_refl _, by rw [swR_size]; exact hds, S2, (by
          intro d' h
          exact HC.out d' (rot_step2 him (by omega) hi0 (by omega) h))⟩
set_option maxHeartbeats 16000000 in
set_option maxRecDepth 1000000 in
/-- The row ahead is one element. -/
theorem symMerge_one (k : Nat) (zE : ∀ w, (Go.sizeOf 142).run Try.prog w = .ok k w) (enc : α → List Value) (cf : α → α → Int) (lt : α → α → Bool) (hO : SWO lt) (g : Nat) (cb : Array Value) (blk off cap a m b : Nat) (d0 d : Array α) (w0 w : World)
    (eg : ∀ args w, (callFunc g args).run Try.prog w = .ok (.enter g args) w) (hcmp : CmpLays Try.prog g cb enc k cf blk off d0.size w0) (R : RowK enc k w0 blk off d0) (hs : d0.size = d.size) (S : SWK enc k w0 blk off d w) (ham : m = a + 1) (hmb : m < b) (hb : b ≤ d.size) (hsz : d.size < 4611686018427387904)
    (hA : Agr cf lt a m b d) (h2 : SortedIn lt m b d) :
    Calls Try.prog 128 #[.slice (some ⟨blk, off, none⟩) d.size cap, .int .i64 a, .int .i64 m, .int .i64 b, .func (.func g) #[] cb] w fun e w' => e = .returned (.tuple #[]) ∧ ∃ d', MergeOk lt a b d d' ∧ SWK enc k w0 blk off d' w' := by
  have mixed : Try.prog.follows .mixedOrders = true := by kernel_rfl
  have aE := isAggRc
  have HC : Aside _ := hcmp
  have HA := Lib.hid hA
  have HO := Lib.hid hO
  have S0 : Aside (SWK enc k w0 blk off d w) := S
  clear S hcmp hA hO
  have H2 := Lib.hid h2
  clear h2
  have hma : (m : Int) - (a : Int) = 1 := by omega
  have HAm := Lib.hid ham
  clear ham
  go_enter Try.func128, Try.ntmps128
  go_wp2
  go_loopg [10, 11] (b - m) (fun kx s10 s11 wr => ∃ (i j : Nat), s10 = .int .i64 i ∧ s11 = .int .i64 j ∧ m ≤ i ∧ i ≤ j ∧ j ≤ b ∧ j - i ≤ kx ∧ Aside (SWK enc k w0 blk off d wr) ∧ Hid (∀ x, m ≤ x → x < i → lt d[x]! d[a]! = true) ∧ Hid (∀ x, j ≤ x → x < b → lt d[x]! d[a]! = false))
  case atStart => exact ⟨m, b, rfl, rfl, Nat.le_refl _, by omega, Nat.le_refl _, Nat.le_refl _, S0, (fun x h1 h2 => by omega), (fun x h1 h2 => by omega)⟩
  case round =>
    clear S0
    obtain ⟨i, j, rfl, rfl, hmi, hij, hjb, hkx, S1, HL, HG⟩ := hrel
    by_cases hlt : i < j
    · have hki : (i : Int) < (j : Int) := by omega
      obtain ⟨h, hh⟩ : ∃ h : Nat, ((i : Int) + (j : Int)) / 2 = (h : Int) := ⟨(i + j) / 2, by omega⟩
      have hih : i ≤ h := by omega
      have hhj : h < j := by omega
      go_upto_region 5 with fail
      clear hh
      cases hlv : lt d[h]! d[a]! with
      | true =>
        have Hlv := Lib.hid hlv
        have ea90 : ((h : Int)).toNat = h := by omega
        have pa90 : (0 : Int) ≤ (h : Int) := by omega
        have ba90 : (h : Int) < (d.size : Int) := by omega
        have ra90 : IntKind.i64.wrap ((h : Int)) = (h : Int) := by rw [IntKind.wrap_i64]; omega
        have ec90 : ((a : Int)).toNat = a := by omega
        have pc90 : (0 : Int) ≤ (a : Int) := by omega
        have bc90 : (a : Int) < (d.size : Int) := by omega
        have rc90 : IntKind.i64.wrap ((a : Int)) = (a : Int) := by rw [IntKind.wrap_i64]; omega
        obtain ⟨x90, hx90⟩ : ∃ x, x = d[h]! := ⟨_, rfl⟩
        obtain ⟨y90, hy90⟩ : ∃ x, x = d[a]! := ⟨_, rfl⟩
        have l90a := S1.out.ld R (by omega) Try.prog (h) (by omega)
        have l90b := S1.out.ld R (by omega) Try.prog (a) (by omega)
        rw [← hx90] at l90a
        rw [← hy90] at l90b
        have hc90 := S1.out.cmp HC.out (by omega) x90 y90
        have hv90 : cf x90 y90 < 0 := by rw [hx90, hy90]; exact of_decide_eq_true ((HA.out a h (Nat.le_refl _) (by omega) (by omega) (by omega)).trans hlv)
        have hd90 : decide (cf x90 y90 < 0) = true := decide_eq_true hv90
        clear hx90 hy90
        go_wp2_with fail
        go_quiet_grown (first | (go_at_fn g; refine Calls.grown_of (hc90 _ _)))
        have S2 : Aside (SWK enc k w0 blk off d (grow (wr.drewN nq) osq)) := S1.out.grown nq osq
        clear l90a l90b hc90 S1
        generalize grow (wr.drewN nq) osq = w2 at S2 ⊢
        clear nq osq
        clear hlv
        go_wp2
        go_roundg (j - (h + 1))
        case measure => omega
        case rel => exact ⟨h + 1, j, by first | go_num | (congr 1; omega), rfl, by omega, by omega, hjb, Nat.le_refl _, S2, (by
          intro x h1 h2
          cases hq : lt d[x]! d[a]! with
          | true => rfl
          | false =>
            have := HO.out.ntrans _ _ _ (SortedIn.le HO.out H2.out h1 (show x ≤ h by omega) (by omega)) hq
            rw [Hlv.out] at this
            cases this), HG⟩
      | false =>
        have Hlv := Lib.hid hlv
        have ea91 : ((h : Int)).toNat = h := by omega
        have pa91 : (0 : Int) ≤ (h : Int) := by omega
        have ba91 : (h : Int) < (d.size : Int) := by omega
        have ra91 : IntKind.i64.wrap ((h : Int)) = (h : Int) := by rw [IntKind.wrap_i64]; omega
        have ec91 : ((a : Int)).toNat = a := by omega
        have pc91 : (0 : Int) ≤ (a : Int) := by omega
        have bc91 : (a : Int) < (d.size : Int) := by omega
        have rc91 : IntKind.i64.wrap ((a : Int)) = (a : Int) := by rw [IntKind.wrap_i64]; omega
        obtain ⟨x91, hx91⟩ : ∃ x, x = d[h]! := ⟨_, rfl⟩
        obtain ⟨y91, hy91⟩ : ∃ x, x = d[a]! := ⟨_, rfl⟩
        have l91a := S1.out.ld R (by omega) Try.prog (h) (by omega)
        have l91b := S1.out.ld R (by omega) Try.prog (a) (by omega)
        rw [← hx91] at l91a
        rw [← hy91] at l91b
        have hc91 := S1.out.cmp HC.out (by omega) x91 y91
        have hv91 : ¬ cf x91 y91 < 0 := by rw [hx91, hy91]; exact of_decide_eq_false ((HA.out a h (Nat.le_refl _) (by omega) (by omega) (by omega)).trans hlv)
        have hd91 : decide (cf x91 y91 < 0) = false := decide_eq_false hv91
        clear hx91 hy91
        go_wp2_with fail
        go_quiet_grown (first | (go_at_fn g; refine Calls.grown_of (hc91 _ _)))
        have S2 : Aside (SWK enc k w0 blk off d (grow (wr.drewN nq) osq)) := S1.out.grown nq osq
        clear l91a l91b hc91 S1
        generalize grow (wr.drewN nq) osq = w2 at S2 ⊢
        clear nq osq
        clear hlv
        go_wp2
        go_roundg (h - i)
        case measure => omega
        case rel => exact ⟨i, h, rfl, rfl, hmi, hih, by omega, Nat.le_refl _, S2, HL, (by
          intro x h1 h2
          exact HO.out.ntrans _ _ _ (SortedIn.le HO.out H2.out (by omega) h1 h2) Hlv.out)⟩
    · obtain rfl : i = j := by omega
      go_wp2
      go_loopg [13] (i - a) (fun kx s13 wr => ∃ (q : Nat) (dk : Array α), s13 = .int .i64 q ∧ a ≤ q ∧ q + 1 ≤ i ∧ i - q ≤ kx ∧ dk.size = d.size ∧ Aside (SWK enc k w0 blk off dk wr) ∧ Hid (RotOk d dk a (a + 1) (q + 1)))
      case atStart => exact ⟨a, d, rfl, Nat.le_refl _, by omega, Nat.le_refl _, rfl, S1, RotOk.id d (.inr rfl) (by omega) (Nat.le_refl _)⟩
      case round =>
        clear S1
        rename World => wr
        obtain ⟨q, dk, rfl, haq, hqi, hkx2, hds, S1, HR⟩ := hrel
        by_cases hlt2 : q + 1 < i
        · have hki : (q : Int) < (i : Int) - 1 := by omega
          go_upto_region 11 with fail
          have ea44 : ((q : Int)).toNat = q := by omega
          have pa44 : (0 : Int) ≤ (q : Int) := by omega
          have ba44 : (q : Int) < (d.size : Int) := by omega
          have ra44 : IntKind.i64.wrap ((q : Int)) = (q : Int) := by rw [IntKind.wrap_i64]; omega
          have ec44 : ((q : Int) + 1).toNat = q + 1 := by omega
          have pc44 : (0 : Int) ≤ (q : Int) + 1 := by omega
          have bc44 : (q : Int) + 1 < (d.size : Int) := by omega
          have rc44 : IntKind.i64.wrap ((q : Int) + 1) = (q : Int) + 1 := by rw [IntKind.wrap_i64]; omega
          have S2 : Aside (SWK enc k w0 blk off (swp dk (q) (q + 1)) ((wr.drew.setCells blk (off + (q) * k) (enc dk[q + 1]!)).setCells blk (off + (q + 1) * k) (enc dk[q]!))) := S1.out.swapped R (q) (q + 1) (by omega) (by omega)
          have l44a := S1.out.ld1 R (by omega) Try.prog (q) (by omega)
          have l44b := S1.out.ld1 R (by omega) Try.prog (q + 1) (by omega)
          have s44a := S1.out.st1 R (by omega) Try.prog (q) (by omega) dk[q + 1]!
          have s44b := S1.out.st2 R (by omega) Try.prog (q) (q + 1) (by omega) (by omega) dk[q + 1]! dk[q]!
          have n44a : (enc dk[q]!).length = k := R.hk _
          have n44b : (enc dk[q + 1]!).length = k := R.hk _
          generalize enc dk[q]! = cI44 at S2 l44a s44b n44a
          generalize enc dk[q + 1]! = cJ44 at S2 l44b s44a s44b n44b
          clear S1
          go_wp2_with fail
          go_big_region_o
          clear l44a l44b s44a s44b
          generalize (wr.drew.setCells blk (off + (q) * k) cJ44).setCells blk (off + (q + 1) * k) cI44 = w2 at S2 ⊢
          go_wp2
          go_roundg (i - (q + 1))
          case measure => omega
          case rel => exact ⟨q + 1, swp dk q (q + 1), by first | go_num | (congr 1; omega), by omega, by omega, Nat.le_refl _, by rw [size_swp]; exact hds, S2, rot_up haq (by omega) HR.out⟩
        · obtain rfl : i = q + 1 := by omega
          have hki : ¬ (q : Int) < ((q + 1 : Nat) : Int) - 1 := by omega
          go_wp2
          first | go_end0 | (refine bodyPost_ret (v := .tuple #[]) (results_none rfl _ _ _) rfl ?_)
          exact ⟨rfl, dk, merge_one HO.out (by rw [← HAm.out]; exact H2.out) hb (by omega) (by omega) (by rw [← HAm.out]; exact HL.out) HG.out HR.out, S1.out⟩
set_option maxHeartbeats 16000000 in
set_option maxRecDepth 1000000 in
/-- The row behind is one element. -/
theorem symMerge_last (k : Nat) (zE : ∀ w, (Go.sizeOf 142).run Try.prog w = .ok k w) (enc : α → List Value) (cf : α → α → Int) (lt : α → α → Bool) (hO : SWO lt) (g : Nat) (cb : Array Value) (blk off cap a m b : Nat) (d0 d : Array α) (w0 w : World)
    (eg : ∀ args w, (callFunc g args).run Try.prog w = .ok (.enter g args) w) (hcmp : CmpLays Try.prog g cb enc k cf blk off d0.size w0) (R : RowK enc k w0 blk off d0) (hs : d0.size = d.size) (S : SWK enc k w0 blk off d w) (ham : a + 1 < m) (hmb : b = m + 1) (hb : b ≤ d.size) (hsz : d.size < 4611686018427387904)
    (hA : Agr cf lt a m b d) (h1 : SortedIn lt a m d) :
    Calls Try.prog 128 #[.slice (some ⟨blk, off, none⟩) d.size cap, .int .i64 a, .int .i64 m, .int .i64 b, .func (.func g) #[] cb] w fun e w' => e = .returned (.tuple #[]) ∧ ∃ d', MergeOk lt a b d d' ∧ SWK enc k w0 blk off d' w' := by
  have mixed : Try.prog.follows .mixedOrders = true := by kernel_rfl
  have aE := isAggRc
  have HC : Aside _ := hcmp
  have HA := Lib.hid hA
  have HO := Lib.hid hO
  have S0 : Aside (SWK enc k w0 blk off d w) := S
  clear S hcmp hA hO
  have H1 := Lib.hid h1
  have hma : (((m : Int) - (a : Int)) == 1) = false := by simp; omega
  have hbm : (b : Int) - (m : Int) = 1 := by omega
  have HBm := Lib.hid hmb
  clear h1 hmb
  go_enter Try.func128, Try.ntmps128
  go_wp2
  go_loopg [14, 15] (m - a) (fun kx s14 s15 wr => ∃ (i j : Nat), s14 = .int .i64 i ∧ s15 = .int .i64 j ∧ a ≤ i ∧ i ≤ j ∧ j ≤ m ∧ j - i ≤ kx ∧ Aside (SWK enc k w0 blk off d wr) ∧ Hid (∀ x, a ≤ x → x < i → lt d[m]! d[x]! = false) ∧ Hid (∀ x, j ≤ x → x < m → lt d[m]! d[x]! = true))
  case atStart => exact ⟨a, m, rfl, rfl, Nat.le_refl _, by omega, Nat.le_refl _, Nat.le_refl _, S0, (fun x h1 h2 => by omega), (fun x h1 h2 => by omega)⟩
  case round =>
    clear S0
    obtain ⟨i, j, rfl, rfl, hai, hij, hjm, hkx, S1, HL, HG⟩ := hrel
    by_cases hlt : i < j
    · have hki : (i : Int) < (j : Int) := by omega
      obtain ⟨h, hh⟩ : ∃ h : Nat, ((i : Int) + (j : Int)) / 2 = (h : Int) := ⟨(i + j) / 2, by omega⟩
      have hih : i ≤ h := by omega
      have hhj : h < j := by omega
      go_upto_region 17 with fail
      clear hh
      cases hlv : lt d[m]! d[h]! with
      | false =>
        have Hlv := Lib.hid hlv
        have ea90 : ((m : Int)).toNat = m := by omega
        have pa90 : (0 : Int) ≤ (m : Int) := by omega
        have ba90 : (m : Int) < (d.size : Int) := by omega
        have ra90 : IntKind.i64.wrap ((m : Int)) = (m : Int) := by rw [IntKind.wrap_i64]; omega
        have ec90 : ((h : Int)).toNat = h := by omega
        have pc90 : (0 : Int) ≤ (h : Int) := by omega
        have bc90 : (h : Int) < (d.size : Int) := by omega
        have rc90 : IntKind.i64.wrap ((h : Int)) = (h : Int) := by rw [IntKind.wrap_i64]; omega
        obtain ⟨x90, hx90⟩ : ∃ x, x = d[m]! := ⟨_, rfl⟩
        obtain ⟨y90, hy90⟩ : ∃ x, x = d[h]! := ⟨_, rfl⟩
        have l90a := S1.out.ld R (by omega) Try.prog (m) (by omega)
        have l90b := S1.out.ld R (by omega) Try.prog (h) (by omega)
        rw [← hx90] at l90a
        rw [← hy90] at l90b
        have hc90 := S1.out.cmp HC.out (by omega) x90 y90
        have hv90 : ¬ cf x90 y90 < 0 := by rw [hx90, hy90]; exact of_decide_eq_false ((HA.out h m (by omega) (by omega) (Nat.le_refl _) (by omega)).trans hlv)
        have hd90 : decide (cf x90 y90 < 0) = false := decide_eq_false hv90
        clear hx90 hy90
        go_wp2_with fail
        go_quiet_grown (first | (go_at_fn g; refine Calls.grown_of (hc90 _ _)))
        have S2 : Aside (SWK enc k w0 blk off d (grow (wr.drewN nq) osq)) := S1.out.grown nq osq
        clear l90a l90b hc90 S1
        generalize grow (wr.drewN nq) osq = w2 at S2 ⊢
        clear nq osq
        clear hlv
        go_wp2
        go_roundg (j - (h + 1))
        case measure => omega
        case rel => exact ⟨h + 1, j, by first | go_num | (congr 1; omega), rfl, by omega, by omega, hjm, Nat.le_refl _, S2, (by
          intro x h1 h2
          exact HO.out.ntrans _ _ _ Hlv.out (SortedIn.le HO.out H1.out h1 (show x ≤ h by omega) (by omega))), HG⟩
      | true =>
        have Hlv := Lib.hid hlv
        have ea91 : ((m : Int)).toNat = m := by omega
        have pa91 : (0 : Int) ≤ (m : Int) := by omega
        have ba91 : (m : Int) < (d.size : Int) := by omega
        have ra91 : IntKind.i64.wrap ((m : Int)) = (m : Int) := by rw [IntKind.wrap_i64]; omega
        have ec91 : ((h : Int)).toNat = h := by omega
        have pc91 : (0 : Int) ≤ (h : Int) := by omega
        have bc91 : (h : Int) < (d.size : Int) := by omega
        have rc91 : IntKind.i64.wrap ((h : Int)) = (h : Int) := by rw [IntKind.wrap_i64]; omega
        obtain ⟨x91, hx91⟩ : ∃ x, x = d[m]! := ⟨_, rfl⟩
        obtain ⟨y91, hy91⟩ : ∃ x, x = d[h]! := ⟨_, rfl⟩
        have l91a := S1.out.ld R (by omega) Try.prog (m) (by omega)
        have l91b := S1.out.ld R (by omega) Try.prog (h) (by omega)
        rw [← hx91] at l91a
        rw [← hy91] at l91b
        have hc91 := S1.out.cmp HC.out (by omega) x91 y91
        have hv91 : cf x91 y91 < 0 := by rw [hx91, hy91]; exact of_decide_eq_true ((HA.out h m (by omega) (by omega) (Nat.le_refl _) (by omega)).trans hlv)
        have hd91 : decide (cf x91 y91 < 0) = true := decide_eq_true hv91
        clear hx91 hy91
        go_wp2_with fail
        go_quiet_grown (first | (go_at_fn g; refine Calls.grown_of (hc91 _ _)))
        have S2 : Aside (SWK enc k w0 blk off d (grow (wr.drewN nq) osq)) := S1.out.grown nq osq
        clear l91a l91b hc91 S1
        generalize grow (wr.drewN nq) osq = w2 at S2 ⊢
        clear nq osq
        clear hlv
        go_wp2
        go_roundg (h - i)
        case measure => omega
        case rel => exact ⟨i, h, rfl, rfl, hai, hih, by omega, Nat.le_refl _, S2, HL, (by
          intro x h1 h2
          cases hq : lt d[m]! d[x]! with
          | true => rfl
          | false =>
            have := HO.out.ntrans _ _ _ hq (SortedIn.le HO.out H1.out (show a ≤ h by omega) h1 h2)
            rw [Hlv.out] at this
            cases this)⟩
    · obtain rfl : i = j := by omega
      go_wp2
      go_loopg [17] (m - i) (fun kx s17 wr => ∃ (q : Nat) (dk : Array α), s17 = .int .i64 q ∧ i ≤ q ∧ q ≤ m ∧ q - i ≤ kx ∧ dk.size = d.size ∧ Aside (SWK enc k w0 blk off dk wr) ∧ Hid (RotOk d dk q m (m + 1)))
      case atStart => exact ⟨m, d, rfl, hjm, Nat.le_refl _, Nat.le_refl _, rfl, S1, RotOk.id d (.inl rfl) (Nat.le_refl _) (by omega)⟩
      case round =>
        clear S1
        rename World => wr
        obtain ⟨q, dk, rfl, hiq, hqm, hkx2, hds, S1, HR⟩ := hrel
        by_cases hlt2 : i < q
        · obtain ⟨q1, rfl⟩ : ∃ q1, q = q1 + 1 := ⟨q - 1, by omega⟩
          have hki : (i : Int) < (q1 : Int) + 1 := by omega
          push_cast
          go_upto_region 23 with fail
          have ea44 : ((q1 : Int) + 1).toNat = q1 + 1 := by omega
          have pa44 : (0 : Int) ≤ (q1 : Int) + 1 := by omega
          have ba44 : (q1 : Int) + 1 < (d.size : Int) := by omega
          have ra44 : IntKind.i64.wrap ((q1 : Int) + 1) = (q1 : Int) + 1 := by rw [IntKind.wrap_i64]; omega
          have ec44 : ((q1 : Int)).toNat = q1 := by omega
          have pc44 : (0 : Int) ≤ (q1 : Int) := by omega
          have bc44 : (q1 : Int) < (d.size : Int) := by omega
          have rc44 : IntKind.i64.wrap ((q1 : Int)) = (q1 : Int) := by rw [IntKind.wrap_i64]; omega
          have S2 : Aside (SWK enc k w0 blk off (swp dk (q1 + 1) (q1)) ((wr.drew.setCells blk (off + (q1 + 1) * k) (enc dk[q1]!)).setCells blk (off + (q1) * k) (enc dk[q1 + 1]!))) := S1.out.swapped R (q1 + 1) (q1) (by omega) (by omega)
          have l44a := S1.out.ld1 R (by omega) Try.prog (q1 + 1) (by omega)
          have l44b := S1.out.ld1 R (by omega) Try.prog (q1) (by omega)
          have s44a := S1.out.st1 R (by omega) Try.prog (q1 + 1) (by omega) dk[q1]!
          have s44b := S1.out.st2 R (by omega) Try.prog (q1 + 1) (q1) (by omega) (by omega) dk[q1]! dk[q1 + 1]!
          have n44a : (enc dk[q1 + 1]!).length = k := R.hk _
          have n44b : (enc dk[q1]!).length = k := R.hk _
          generalize enc dk[q1 + 1]! = cI44 at S2 l44a s44b n44a
          generalize enc dk[q1]! = cJ44 at S2 l44b s44a s44b n44b
          clear S1
          go_wp2_with fail
          go_big_region_o
          clear l44a l44b s44a s44b
          generalize (wr.drew.setCells blk (off + (q1 + 1) * k) cJ44).setCells blk (off + (q1) * k) cI44 = w2 at S2 ⊢
          go_wp2
          go_roundg (q1 - i)
          case measure => omega
          case rel => exact ⟨q1, swp dk (q1 + 1) q1, by first | go_num | (congr 1; omega), by omega, by omega, Nat.le_refl _, by rw [size_swp]; exact hds, S2, rot_down (by omega) (by omega) HR.out⟩
        · obtain rfl : i = q := by omega
          go_wp2
          first | go_end0 | (refine bodyPost_ret (v := .tuple #[]) (results_none rfl _ _ _) rfl ?_)
          exact ⟨rfl, dk, by rw [HBm.out]; exact merge_last HO.out H1.out (by omega) (by omega) (by omega) HL.out HG.out HR.out, S1.out⟩
end
end Go.Proofs.Ytpnkhgjjlionnaa
namespace Go.Proofs.Ytpnkhgjjlionnaa
open Go.RowKit Go.Sort Go.Lib

section
variable {α : Type} [Inhabited α]
set_option maxHeartbeats 16000000 in
set_option maxRecDepth 1000000 in
/-- symMerge: two rows in order, side by side, become one. -/
theorem symMerge_any (k : Nat) (zE : ∀ w, (Go.sizeOf 142).run Try.prog w = .ok k w) (enc : α → List Value) (cf : α → α → Int) (lt : α → α → Bool) (hO : SWO lt) (g : Nat) (cb : Array Value) (blk off cap : Nat) (d0 : Array α) (w0 : World)
    (eg : ∀ args w, (callFunc g args).run Try.prog w = .ok (.enter g args) w) (hcmp : CmpLays Try.prog g cb enc k cf blk off d0.size w0) (R : RowK enc k w0 blk off d0) :
    ∀ (N a m b : Nat) (d : Array α) (w : World), b - a ≤ N → d0.size = d.size → SWK enc k w0 blk off d w → a < m → m < b → b ≤ d.size → d.size < 4611686018427387904 → Agr cf lt a m b d → SortedIn lt a m d → SortedIn lt m b d →
    Calls Try.prog 128 #[.slice (some ⟨blk, off, none⟩) d.size cap, .int .i64 a, .int .i64 m, .int .i64 b, .func (.func g) #[] cb] w fun e w' => e = .returned (.tuple #[]) ∧ ∃ d', MergeOk lt a b d d' ∧ SWK enc k w0 blk off d' w' := by
  intro N
  induction N with
  | zero => intro a m b d w hN hs S ham hmb; omega
  | succ N ih =>
    intro a m b d w hN hs S ham hmb hb hsz hA h1 h2
    by_cases c1 : m = a + 1
    · exact symMerge_one k zE enc cf lt hO g cb blk off cap a m b d0 d w0 w eg hcmp R hs S c1 hmb hb hsz hA h2
    by_cases c2 : b = m + 1
    · exact symMerge_last k zE enc cf lt hO g cb blk off cap a m b d0 d w0 w eg hcmp R hs S (by omega) c2 hb hsz hA h1
    have mixed : Try.prog.follows .mixedOrders = true := by kernel_rfl
    have aE := isAggRc
    have HC : Aside _ := hcmp
    have HA := Lib.hid hA
    have HO := Lib.hid hO
    have H1 := Lib.hid h1
    have H2 := Lib.hid h2
    have IH := Lib.hid ih
    have S0 : Aside (SWK enc k w0 blk off d w) := S
    have hma : (((m : Int) - (a : Int)) == 1) = false := by simp; omega
    have hbm : (((b : Int) - (m : Int)) == 1) = false := by simp; omega
    obtain ⟨mid, hmid⟩ : ∃ mid : Nat, ((a : Int) + (b : Int)) / 2 = (mid : Int) := ⟨(a + b) / 2, by omega⟩
    have ham2 : a < mid := by omega
    have hmb2 : mid < b := by omega
    have hmm : 2 * mid ≤ a + b ∧ a + b ≤ 2 * mid + 1 := by omega
    clear S hA h1 h2 ih c1 c2
    go_enter Try.func128, Try.ntmps128
    go_upto_if 140 with fail
    clear hma hbm hmid
    go_cut [20, 21] (fun v20 v21 W => W = w ∧ ∃ lo hi : Nat, v20 = .int .i64 (lo : Int) ∧ v21 = .int .i64 (hi : Int) ∧ (lo = a ∧ hi = m ∨ lo + b = mid + m ∧ hi = mid) ∧ a ≤ lo ∧ hi ≤ m ∧ mid + m ≤ lo + b ∧ hi ≤ mid ∧ lo ≤ hi)
    case first =>
      by_cases hgt : mid < m
      · have hg2 : (mid : Int) < (m : Int) := by omega
        go_wp2
        go_meet
        exact ⟨rfl, mid + m - b, mid, by congr 1; omega, rfl, .inr ⟨by omega, rfl⟩, by omega, by omega, by omega, by omega, by omega⟩
      · have hg2 : ¬ (mid : Int) < (m : Int) := by omega
        go_wp2
        go_meet
        exact ⟨rfl, a, m, rfl, rfl, .inl ⟨rfl, rfl⟩, by omega, by omega, by omega, by omega, by omega⟩
    case rest =>
      obtain ⟨rfl, lo, hi, rfl, rfl, hcase, hlo1, hhi1, hlo2, hhi2, hlh⟩ := hcut
      have HCase := Lib.hid hcase
      clear hcase
      go_wp2
      go_loopg [20, 21] (hi - lo) (fun kx s20 s21 wr => ∃ (s r : Nat), s20 = .int .i64 s ∧ s21 = .int .i64 r ∧ lo ≤ s ∧ s ≤ r ∧ r ≤ hi ∧ r - s ≤ kx ∧ Aside (SWK enc k w0 blk off d wr) ∧ Hid (lo < s → lt d[mid + m - 1 - (s - 1)]! d[s - 1]! = false) ∧ Hid (r < hi → lt d[mid + m - 1 - r]! d[r]! = true))
      case atStart => exact ⟨lo, hi, rfl, rfl, Nat.le_refl _, hlh, Nat.le_refl _, Nat.le_refl _, S0, (fun h => by omega), (fun h => by omega)⟩
      case round =>
        clear S0
        rename World => wr
        obtain ⟨s, r, rfl, rfl, hls, hsr, hrh, hkx, S1, HL, HG⟩ := hrel
        by_cases hlt : s < r
        · have hki : (s : Int) < (r : Int) := by omega
          obtain ⟨c, hh⟩ : ∃ c : Nat, ((s : Int) + (r : Int)) / 2 = (c : Int) := ⟨(s + r) / 2, by omega⟩
          have hsc : s ≤ c := by omega
          have hcr : c < r := by omega
          obtain ⟨y, hyN⟩ : ∃ y, mid + m - 1 - c = y := ⟨_, rfl⟩
          have hy : (mid : Int) + (m : Int) - 1 - (c : Int) = (y : Int) := by omega
          have hym : m ≤ y := by omega
          have hyb : y < b := by omega
          have HyN := Lib.hid hyN
          clear hyN
          go_upto_region 35 with fail
          clear hh
          as_aux_lemma =>
            cases hlv : lt d[y]! d[c]! with
            | false =>
              have Hlv := Lib.hid hlv
              have ea90 : ((y : Int)).toNat = y := by omega
              have pa90 : (0 : Int) ≤ (y : Int) := by omega
              have ba90 : (y : Int) < (d.size : Int) := by omega
              have ra90 : IntKind.i64.wrap ((y : Int)) = (y : Int) := by rw [IntKind.wrap_i64]; omega
              have ec90 : ((c : Int)).toNat = c := by omega
              have pc90 : (0 : Int) ≤ (c : Int) := by omega
              have bc90 : (c : Int) < (d.size : Int) := by omega
              have rc90 : IntKind.i64.wrap ((c : Int)) = (c : Int) := by rw [IntKind.wrap_i64]; omega
              obtain ⟨x90, hx90⟩ : ∃ x, x = d[y]! := ⟨_, rfl⟩
              obtain ⟨y90, hy90⟩ : ∃ x, x = d[c]! := ⟨_, rfl⟩
              have l90a := S1.out.ld R (by omega) Try.prog (y) (by omega)
              have l90b := S1.out.ld R (by omega) Try.prog (c) (by omega)
              rw [← hx90] at l90a
              rw [← hy90] at l90b
              have hc90 := S1.out.cmp HC.out (by omega) x90 y90
              have hv90 : ¬ cf x90 y90 < 0 := by rw [hx90, hy90]; exact of_decide_eq_false ((HA.out c y (by omega) (by omega) hym hyb).trans hlv)
              have hd90 : decide (cf x90 y90 < 0) = false := decide_eq_false hv90
              clear hx90 hy90
              go_wp2_with fail
              go_quiet_grown (first | (go_at_fn g; refine Calls.grown_of (hc90 _ _)))
              have S2 : Aside (SWK enc k w0 blk off d (grow (wr.drewN nq) osq)) := S1.out.grown nq osq
              clear l90a l90b hc90 S1
              generalize grow (wr.drewN nq) osq = w2 at S2 ⊢
              clear nq osq
              clear hlv
              go_wp2
              go_roundg (r - (c + 1))
              case measure => omega
              case rel => exact ⟨c + 1, r, by first | go_num | (congr 1; omega), rfl, by omega, by omega, hrh, Nat.le_refl _, S2, (by
                intro _
                rw [show c + 1 - 1 = c from by omega, HyN.out]
                exact Hlv.out), HG⟩
            | true =>
              have Hlv := Lib.hid hlv
              have ea91 : ((y : Int)).toNat = y := by omega
              have pa91 : (0 : Int) ≤ (y : Int) := by omega
              have ba91 : (y : Int) < (d.size : Int) := by omega
              have ra91 : IntKind.i64.wrap ((y : Int)) = (y : Int) := by rw [IntKind.wrap_i64]; omega
              have ec91 : ((c : Int)).toNat = c := by omega
              have pc91 : (0 : Int) ≤ (c : Int) := by omega
              have bc91 : (c : Int) < (d.size : Int) := by omega
              have rc91 : IntKind.i64.wrap ((c : Int)) = (c : Int) := by rw [IntKind.wrap_i64]; omega
              obtain ⟨x91, hx91⟩ : ∃ x, x = d[y]! := ⟨_, rfl⟩
              obtain ⟨y91, hy91⟩ : ∃ x, x = d[c]! := ⟨_, rfl⟩
              have l91a := S1.out.ld R (by omega) Try.prog (y) (by omega)
              have l91b := S1.out.ld R (by omega) Try.prog (c) (by omega)
              rw [← hx91] at l91a
              rw [← hy91] at l91b
              have hc91 := S1.out.cmp HC.out (by omega) x91 y91
              have hv91 : cf x91 y91 < 0 := by rw [hx91, hy91]; exact of_decide_eq_true ((HA.out c y (by omega) (by omega) hym hyb).trans hlv)
              have hd91 : decide (cf x91 y91 < 0) = true := decide_eq_true hv91
              clear hx91 hy91
              go_wp2_with fail
              go_quiet_grown (first | (go_at_fn g; refine Calls.grown_of (hc91 _ _)))
              have S2 : Aside (SWK enc k w0 blk off d (grow (wr.drewN nq) osq)) := S1.out.grown nq osq
              clear l91a l91b hc91 S1
              generalize grow (wr.drewN nq) osq = w2 at S2 ⊢
              clear nq osq
              clear hlv
              go_wp2
              go_roundg (c - s)
              case measure => omega
              case rel => exact ⟨s, c, rfl, rfl, hls, hsc, by omega, Nat.le_refl _, S2, HL, (by
                intro _
                rw [HyN.out]
                exact Hlv.out)⟩
        · obtain rfl : s = r := by omega
          obtain ⟨e, hse⟩ : ∃ e : Nat, s + e = mid + m := ⟨mid + m - s, by omega⟩
          have hee : (mid : Int) + (m : Int) - (s : Int) = (e : Int) := by omega
          have Hse := Lib.hid hse
          have hme : m ≤ e := by omega
          have heb : e ≤ b := by omega
          have hde : mid ≤ e := by omega
          have hes : s ≤ e := by omega
          clear hse
          as_aux_lemma =>
            go_upto_region 39 with fail
            clear hee
            go_cut [185] (fun v W => W = wr ∧ ∃ b9 : Bool, v = .bool b9 ∧ (b9 = true ↔ s < m ∧ m < e))
            case first =>
              by_cases hsm : s < m
              · have q1 : (s : Int) < (m : Int) := by omega
                by_cases hme2 : m < e
                · have q2 : (m : Int) < (e : Int) := by omega
                  go_wp2
                  go_meet
                  exact ⟨rfl, true, rfl, ⟨fun _ => ⟨hsm, hme2⟩, fun _ => rfl⟩⟩
                · have q2 : ¬ (m : Int) < (e : Int) := by omega
                  go_wp2
                  go_meet
                  exact ⟨rfl, false, rfl, ⟨fun h => (by cases h), fun h => absurd h.2 hme2⟩⟩
              · have q1 : ¬ (s : Int) < (m : Int) := by omega
                go_wp2
                go_meet
                exact ⟨rfl, false, rfl, ⟨fun h => (by cases h), fun h => absurd h.1 hsm⟩⟩
            case rest =>
            obtain ⟨hW, b9, rfl, hb9⟩ := hcut
            have hW := hW.symm
            subst hW
            have Hb9 := Lib.hid hb9
            clear hb9
            as_aux_lemma =>
              go_upto_if 185 with fail
              go_cut [] (fun W => ∃ d1, RotOk d d1 s m e ∧ SWK enc k w0 blk off d1 W)
              case first =>
                cases b9 with
                | true =>
                    obtain ⟨hsm, hme2⟩ := Hb9.out.1 (by first | rfl | trivial)
                    have HRt := Lib.hid (rotate_any k zE enc g cb blk off cap s m e d0 d w0 wr R hs S1.out hsm hme2 (by omega) hsz)
                    clear S1
                    go_wp2_with (go_at_call 142; refine HRt.out.mono ?_; rintro e9 w9 ⟨rfl, d1, hR1, hS1⟩)
                    go_meet
                    exact ⟨d1, hR1, hS1⟩
                | false =>
                    have hno : s = m ∨ m = e := by
                      by_cases x1 : s < m
                      · by_cases x2 : m < e
                        · have := Hb9.out.2 ⟨x1, x2⟩
                          simp at this
                        · exact .inr (by omega)
                      · exact .inl (by omega)
                    go_wp2
                    go_meet
                    exact ⟨d, RotOk.id d hno (by omega) (by omega), S1.out⟩
              case rest =>
                obtain ⟨d1, hR1, hS1⟩ := hcut
                rename World => wa
                have hz1 : d1.size = d.size := hR1.size (by omega)
                have HH := Lib.hid (sym_mid HO.out H1.out H2.out (by omega) (by omega) ⟨by omega, by omega⟩ Hse.out hls hrh HCase.out hlo1 hhi1 hlo2 hhi2 HL.out HG.out hR1)
                have HAg := Lib.hid (agr_rot HA.out (show s ≤ m by omega) hme heb (by omega) Hse.out (by omega) (by omega) hR1)
                have HP1 := Lib.hid (hR1.1 a b (by omega) heb hb)
                have HS1 : Aside (SWK enc k w0 blk off d1 wa) := hS1
                clear hR1 hS1 S1
                as_aux_lemma =>
                  go_upto_region 41 with fail
                  go_cut [199] (fun v W => W = wa ∧ ∃ b9 : Bool, v = .bool b9 ∧ (b9 = true ↔ a < s ∧ s < mid))
                  case first =>
                    by_cases has : a < s
                    · have q1 : (a : Int) < (s : Int) := by omega
                      by_cases hsd : s < mid
                      · have q2 : (s : Int) < (mid : Int) := by omega
                        go_wp2
                        go_meet
                        exact ⟨rfl, true, rfl, ⟨fun _ => ⟨has, hsd⟩, fun _ => rfl⟩⟩
                      · have q2 : ¬ (s : Int) < (mid : Int) := by omega
                        go_wp2
                        go_meet
                        exact ⟨rfl, false, rfl, ⟨fun h => (by cases h), fun h => absurd h.2 hsd⟩⟩
                    · have q1 : ¬ (a : Int) < (s : Int) := by omega
                      go_wp2
                      go_meet
                      exact ⟨rfl, false, rfl, ⟨fun h => (by cases h), fun h => absurd h.1 has⟩⟩
                  case rest =>
                  obtain ⟨hW, b8, rfl, hb8⟩ := hcut
                  have hW := hW.symm
                  subst hW
                  have Hb8 := Lib.hid hb8
                  clear hb8
                  as_aux_lemma =>
                    go_upto_if 199 with fail
                    go_cut [] (fun W => ∃ d2, MergeOk lt a mid d1 d2 ∧ SWK enc k w0 blk off d2 W)
                    case first =>
                      cases b8 with
                      | true =>
                          obtain ⟨has, hsd⟩ := Hb8.out.1 (by first | rfl | trivial)
                          have HM1 := Lib.hid (IH.out a s mid d1 wa (by omega) (by omega) HS1.out has hsd (by omega) (by omega) HAg.out.1 HH.out.s1 HH.out.s2)
                          rw [hz1] at HM1
                          clear HS1
                          go_wp2_with (go_at_call 128; refine HM1.out.mono ?_; rintro e9 w9 ⟨rfl, d2, hM, hS2⟩)
                          go_meet
                          exact ⟨d2, hM, hS2⟩
                      | false =>
                          have hno : s = a ∨ s = mid := by
                            by_cases x1 : a < s
                            · by_cases x2 : s < mid
                              · have := Hb8.out.2 ⟨x1, x2⟩
                                simp at this
                              · exact .inr (by omega)
                            · exact .inl (by omega)
                          go_wp2
                          go_meet
                          refine ⟨d1, mergeOk_id ?_, HS1.out⟩
                          rcases hno with hno | hno
                          · have := HH.out.s2
                            rw [hno] at this
                            exact this
                          · have := HH.out.s1
                            rw [hno] at this
                            exact this
                    case rest =>
                      obtain ⟨d2, hM2, hS2⟩ := hcut
                      rename World => wb
                      have hz2 : d2.size = d1.size := hM2.1.1
                      have HM2 := Lib.hid hM2
                      have hsame : ∀ x, mid ≤ x → x < b → d2[x]! = d1[x]! := fun x hx _ => hM2.1.2.1 x (.inr hx)
                      have HAg2 := Lib.hid (HAg.out.2.same hsame)
                      have H3 := Lib.hid (show SortedIn lt mid e d2 from fun i j h1 h2 h3 => by rw [hsame i (by omega) (by omega), hsame j (by omega) (by omega)]; exact HH.out.s3 i j h1 h2 h3)
                      have H4 := Lib.hid (show SortedIn lt e b d2 from fun i j h1 h2 h3 => by rw [hsame i (by omega) (by omega), hsame j (by omega) (by omega)]; exact HH.out.s4 i j h1 h2 h3)
                      have HS2 : Aside (SWK enc k w0 blk off d2 wb) := hS2
                      clear hM2 hS2 HS1 hsame
                      as_aux_lemma =>
                        by_cases hme3 : mid < e
                        · have q1 : (mid : Int) < (e : Int) := by omega
                          by_cases heb2 : e < b
                          · have q2 : (e : Int) < (b : Int) := by omega
                            have HM3 := Lib.hid (IH.out mid e b d2 wb (by omega) (by omega) HS2.out hme3 heb2 (by omega) (by omega) HAg2.out H3.out H4.out)
                            rw [hz2, hz1] at HM3
                            clear HS2
                            go_wp2_with (go_at_call 128; refine HM3.out.mono ?_; rintro e9 w9 ⟨rfl, d3, hM, hS3⟩)
                            first | go_end0 | (refine bodyPost_ret (v := .tuple #[]) (results_none rfl _ _ _) rfl ?_)
                            exact ⟨rfl, d3, merge_join HO.out hb (by omega) (by omega) HP1.out HH.out HM2.out hM, hS3⟩
                          · have q2 : ¬ (e : Int) < (b : Int) := by omega
                            go_wp2
                            first | go_end0 | (refine bodyPost_ret (v := .tuple #[]) (results_none rfl _ _ _) rfl ?_)
                            exact ⟨rfl, d2, merge_join HO.out hb (by omega) (by omega) HP1.out HH.out HM2.out (mergeOk_id (by have := H3.out; rw [show e = b from by omega] at this; exact this)), HS2.out⟩
                        · have q1 : ¬ (mid : Int) < (e : Int) := by omega
                          go_wp2
                          first | go_end0 | (refine bodyPost_ret (v := .tuple #[]) (results_none rfl _ _ _) rfl ?_)
                          exact ⟨rfl, d2, merge_join HO.out hb (by omega) (by omega) HP1.out HH.out HM2.out (mergeOk_id (by have := H4.out; rw [show e = mid from by omega] at this; exact this)), HS2.out⟩
end
end Go.Proofs.Ytpnkhgjjlionnaa
namespace Go.Proofs.Ytpnkhgjjlionnaa
open Go.RowKit Go.Sort

/-- slices.stableCmpFunc of that many: two sorts of few and one merge. -/
theorem stableCmp_walk (b n g : Nat) (h1 : 20 < n) (h2 : n < 40) (W : World) (P1 P2 Q : World → Prop)
    (H1 : Hid (Calls Try.prog 127 #[.slice (some ⟨b, 0, none⟩) n n, .int .i64 0, .int .i64 20, .func (.func g) #[] #[]] W fun e w' => e = .returned (.tuple #[]) ∧ P1 w'))
    (H2 : Hid (∀ V, P1 V → Calls Try.prog 127 #[.slice (some ⟨b, 0, none⟩) n n, .int .i64 20, .int .i64 (n : Int), .func (.func g) #[] #[]] V fun e w' => e = .returned (.tuple #[]) ∧ P2 w'))
    (H3 : Hid (∀ V, P2 V → Calls Try.prog 128 #[.slice (some ⟨b, 0, none⟩) n n, .int .i64 0, .int .i64 20, .int .i64 (n : Int), .func (.func g) #[] #[]] V fun e w' => e = .returned (.tuple #[]) ∧ Q w')) :
    Calls Try.prog 109 #[.slice (some ⟨b, 0, none⟩) n n, .int .i64 (n : Int), .func (.func g) #[] #[]] W fun e w' => e = .returned (.tuple #[]) ∧ Q w' := by
  have d1 : decide ((20 : Int) ≤ (n : Int)) = true := by simp; omega
  have d2 : decide ((40 : Int) ≤ (n : Int)) = false := by simp; omega
  have d3 : decide ((20 : Int) < (n : Int)) = true := by simp; omega
  have d4 : decide ((40 : Int) < (n : Int)) = false := by simp; omega
  clear h1 h2
  go_enter Try.func109, Try.ntmps109
  go_wp2
  go_loopw [7, 8] (fun a c wr => (a = .int .i64 0 ∧ c = .int .i64 20 ∧ wr = W) ∨ (a = .int .i64 20 ∧ c = .int .i64 40 ∧ P1 wr)) (fun _ c _ => 40 - (intOf c).toNat)
  case atStart => exact .inl ⟨rfl, rfl, rfl⟩
  case round =>
    rename World => wr
    rcases hrel with ⟨rfl, rfl, rfl⟩ | ⟨rfl, rfl, hp⟩
    · go_wp2_with (go_at_call 127; refine H1.out.mono ?_; rintro e w' ⟨rfl, hp⟩)
      go_roundw
      case measure => simp [intOf]
      case rel => exact .inr ⟨rfl, rfl, hp⟩
    · have H2' := Lib.hid (H2.out wr hp)
      clear hp
      go_wp2_with (go_at_call 127; refine H2'.out.mono ?_; rintro e w2 ⟨rfl, hp2⟩)
      go_loopw [6] (fun a wx => (a = .int .i64 20 ∧ wx = w2) ∨ (a = .int .i64 40 ∧ Q wx)) (fun a _ => 40 - (intOf a).toNat)
      case atStart => exact .inl ⟨rfl, rfl⟩
      case round =>
        rename World => wy
        rcases hrel with ⟨rfl, rfl⟩ | ⟨rfl, hq⟩
        · have H3' := Lib.hid (H3.out wy hp2)
          clear hp2
          go_wp2
          go_loopw [7, 8] (fun a c wx => a = .int .i64 0 ∧ c = .int .i64 40 ∧ wx = wy) (fun _ _ _ => 0)
          case atStart => exact ⟨rfl, rfl, rfl⟩
          case round =>
            obtain ⟨rfl, rfl, rfl⟩ := hrel
            go_wp2_with (go_at_call 128; refine H3'.out.mono ?_; rintro e w3 ⟨rfl, hq⟩)
            go_roundw
            case measure => simp [intOf]
            case rel => exact .inr ⟨rfl, hq⟩
        · go_wp2
          refine bodyPost_end (results_none rfl _ _ _) rfl ?_
          exact ⟨rfl, hq⟩
theorem cfA_ok {W : World} {base : Nat} : CfOk (cfA (W := W) (base := base)) := ⟨fun x y => cmpL_anti y.1.m.row x.1.m.row, fun _ _ _ h1 h2 => cmpL_le_trans h1 h2⟩
def encT {W : World} {base : Nat} (x : RcA W base × Nat) : List Value := encA x.1
def cfT {W : World} {base : Nat} (x y : RcA W base × Nat) : Int := cfA x.1 y.1
theorem encT_len {W : World} {base : Nat} (x : RcA W base × Nat) : (encT x).length = 6 := rfl
theorem flat_tag {W : World} {base : Nat} (l : List (RcA W base × Nat)) : l.flatMap encT = (l.map (·.1)).flatMap encA := by rw [List.flatMap_map]; rfl
theorem lays_tag {W : World} {base b n : Nat} {cs : Array Value} [Inhabited (RcA W base × Nat)] (hB : Blk W b 142 cs) {d : Array (RcA W base × Nat)} (hd : d.size = n) (hown : W.ownsRow base 142 6 (.slice (some ⟨b, 0, none⟩) n n) n (d.toList.flatMap encT)) :
    CmpLays Try.prog 86 #[] (encT (W := W) (base := base)) 6 cfT b 0 n W := by
  intro m os dk hdk x y
  have hG := (ownsRow_sortedK (enc := encT) encT_len (by decide) hown (d' := dk) (m := m) (os := os) (by omega)).2
  refine (cmpRc_any x.1.1 y.1.1 base _ (x.1.2.1.kept hB hG) (y.1.2.1.kept hB hG) x.1.2.2 y.1.2.2).mono ?_
  rintro e w' ⟨rfl, rfl⟩
  refine ⟨rfl, 0, #[.cells x.1.1.enc.toArray 142, .cells y.1.1.enc.toArray 142], ?_⟩
  rw [alloc_eq_grow, alloc_eq_grow, grow_grow]
  rfl
theorem stable2_any (W : World) (base b n : Nat) (l : List RecM) (h : Recs W base b l) (hl : l.length = n) (h20 : 20 < n) (h40 : n < 40) (hr : ∀ r ∈ l, r.row.length ≤ 1000000) :
    Calls Try.prog 85 #[.slice (some ⟨b, 0, none⟩) n n, .func (.func 86) #[] #[]] W fun e w' => e = .returned (.tuple #[]) ∧ Recs w' base b (sortB ltR l) ∧ W.grownBy w' (some b) := by
  obtain ⟨hb, hm, xs, hxl, hx, hB⟩ := h
  have hxr : ∀ x ∈ xs, RecOwn W base x.enc.toArray x.m ∧ x.m.row.length ≤ 1000000 := fun x hxm => ⟨hx x hxm, hr _ (by rw [← hxl]; exact List.mem_map.2 ⟨x, hxm, rfl⟩)⟩
  obtain ⟨ds, hds⟩ : ∃ ds : List (RcA W base), ds.map (·.1) = xs := exists_sub xs hxr
  have hdl : ds.length = n := by rw [← hl, ← hxl, ← hds]; simp
  obtain ⟨z0, hz0⟩ : ∃ x, x ∈ ds := by
    cases ds with
    | nil => simp at hdl; omega
    | cons a r => exact ⟨a, List.mem_cons_self ..⟩
  haveI : Inhabited (RcA W base) := ⟨z0⟩
  have hfl : ∀ es : List (RcA W base), es.flatMap encA = (es.map (·.1)).flatMap RcV.enc := fun es => by rw [List.flatMap_map]; rfl
  have hxn : (xs.flatMap RcV.enc).length = n * 6 := by rw [flatMap_len enc_len, ← hds]; simp [hdl]
  have hmn : n ≤ maxLen := by rw [hl] at hm; omega
  have hlt : b < W.heap.size := hB.lt
  obtain ⟨d0, e0⟩ : ∃ d0, d0 = (tagL 0 ds).toArray := ⟨_, rfl⟩
  have hown : W.ownsRow base 142 6 (.slice (some ⟨b, 0, none⟩) n n) n (d0.toList.flatMap encT) := by
    rw [e0, List.toList_toArray, flat_tag, tagL_fst, hfl, hds]
    exact blk_owns hB hb hmn hxn
  obtain ⟨d1, e1⟩ : ∃ d1, d1 = insertionSort (lt0 cfA) d0 0 20 := ⟨_, rfl⟩
  obtain ⟨d2, e2⟩ : ∃ d2, d2 = insertionSort (lt0 cfA) d1 20 n := ⟨_, rfl⟩
  obtain ⟨s0, s1, s2, hA, hS1, hS2, hfin⟩ := stable_plain cfA_ok hdl h20 e0 e1 e2
  have R : RowK encT 6 W b 0 d0 := ⟨encT_len, fun x => x.1.2.1.one, holdsK_of_own encT_len (by decide) hown, hlt⟩
  have hC := lays_tag hB s0 hown
  have S0 : SWK encT 6 W b 0 d0 W := SWK.start R.hH
  have hO : SWO (ltOf (cfT (W := W) (base := base))) := cfA_ok.swo0
  have eg : ∀ args w, (callFunc 86 args).run Try.prog w = .ok (.enter 86 args) w := fun _ _ => by kernel_rfl
  have hC' : CmpLays Try.prog 86 #[] (encT (W := W) (base := base)) 6 cfT b 0 d0.size W := by rw [s0]; exact hC
  have H1 := Lib.hid (Try.insertionSortCmpFunc_w_f127 6 isAggRc sizeRc encT cfT 86 #[] b 0 n 0 20 d0 d0 W W eg hC' R rfl S0 hO (by omega) (by omega) (by omega))
  have H2 := Lib.hid (fun V (S1 : SWK encT 6 W b 0 d1 V) => Try.insertionSortCmpFunc_w_f127 6 isAggRc sizeRc encT cfT 86 #[] b 0 n 20 n d0 d1 W V eg hC' R (by omega) S1 hO (by omega) (by omega) (by omega))
  have H3 := Lib.hid (fun V (S2 : SWK encT 6 W b 0 d2 V) => symMerge_any 6 sizeRc encT cfT (ltT cfA) cfA_ok.swoT 86 #[] b 0 n d0 W eg hC' R n 0 20 n d2 V (by omega) (by omega) S2 (by omega) h20 (by omega) (by omega) hA hS1 hS2)
  have HF : ∀ V, (∃ d', MergeOk (ltT cfA) 0 n d2 d' ∧ SWK encT 6 W b 0 d' V) → Recs V base b (sortB ltR l) ∧ W.grownBy V (some b) := by
    rintro V ⟨d', hM, m, os, rfl⟩
    have hsz : d'.size = d0.size := by rw [hM.1.1, s2, s0]
    obtain ⟨ho, hg⟩ := ownsRow_sortedK (enc := encT) encT_len (by decide) hown (d' := d') (m := m) (os := os) hsz
    refine ⟨?_, hg⟩
    have hm2 : (sortB (lt0 cfA) (tagL 0 ds)).map (·.1) = sortB (ltOf cfA) ds := by
      rw [sortB_map (lt := lt0 cfA) (lt' := ltOf (cfA (W := W) (base := base))) (f := fun x : RcA W base × Nat => x.1) (fun x y => rfl), tagL_fst]
    rw [hfin d' hM, flat_tag, hm2, hfl] at ho
    refine ⟨hb, by rw [sortB_len]; exact hm, (sortB (ltOf cfA) ds).map (·.1), ?_, ?_, owns_blk ho⟩
    · rw [List.map_map, ← hxl, ← hds, List.map_map]
      exact sortB_map (lt := ltOf cfA) (lt' := ltR) (f := fun x : RcA W base => x.1.m) (fun x y => rfl) ds
    · intro x hxm
      obtain ⟨y, hy, rfl⟩ := List.mem_map.1 hxm
      exact y.2.1.kept hB hg
  rw [s0] at H1
  rw [s1] at H2
  rw [s2] at H3
  have HS := Lib.hid (stableCmp_walk b n 86 h20 h40 W (SWK encT 6 W b 0 d1) (SWK encT 6 W b 0 d2) (fun V => ∃ d', MergeOk (ltT cfA) 0 n d2 d' ∧ SWK encT 6 W b 0 d' V) (Lib.hid (by have := H1.out; rw [e1]; exact this)) (Lib.hid (by have := H2.out; rw [e2]; exact this)) H3)
  have HF := Lib.hid HF
  clear H1 H2 H3 hC hC' R hown hA hS1 hS2 hfin hO S0 hB hx hxr hr
  go_enter Try.func85, Try.ntmps85
  go_wp2_with (go_at_call 109; refine HS.out.mono ?_; rintro e w' ⟨rfl, hq⟩)
  refine bodyPost_end (results_none rfl _ _ _) rfl ?_
  exact ⟨rfl, HF.out _ hq⟩
end Go.Proofs.Ytpnkhgjjlionnaa
