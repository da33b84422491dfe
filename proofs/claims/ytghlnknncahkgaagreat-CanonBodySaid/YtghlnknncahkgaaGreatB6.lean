/-
  Texts joined by program, what the law uses alone: Form CFm DuM R10 DuS F13B R10B R10C Dual RrS.
-/
import Derived.Deep.QuietTactic
import Derived.BigQuiet
import Derived.BigRegion
import Derived.Deep.DeepCutAuto
import Derived.Deep.RegionHeld3
import Derived.Lib.Hide
import Derived.Lib.QuietBelow
import Derived.Lib.Slices
import Derived.LoopIn
import Derived.LoopNIn
import Derived.OwnWalkIn
import Derived.RangeFuncBound
import Derived.RangeFuncCalls
import Derived.RangeFuncLeaves
import Derived.RangeFuncNested
import Derived.RegionTactic
import Derived.Shelf.Abstract
import Derived.TacticsInMore
import Derived.Test.YtghlnknncahkgaaGreatB5
import Derived.Test.YtghlnknncahkgaaGreatB3
import Derived.Test.YtghlnknncahkgaaGreatB4
import Derived.Test.YtghlnknncahkgaaGreatB1
namespace Go.Proofs.YtghlnknncahkgaaGreat
open Go.RowKit Go.Maps Go.Sort

theorem infoRc : (Tryz.prog.info? 127).map (fun i => (i.zero, i.size, i.bytes)) = some (some (.agg #[.slice none 0 0, .int .i64 0, .slice none 0 0, .slice none 0 0, .slice none 0 0, .slice none 0 0]), 6, 128) := by kernel_rfl
theorem infoSoup : (Tryz.prog.info? 24).map (fun i => (i.zero, i.size, i.bytes)) = some (some (.agg #[.int .i64 0, .slice none 0 0]), 2, 32) := by kernel_rfl
/-- The best so far, as records. -/
def bestR (T P : List Tr) (K out : List Int) (m k : Nat) : List (Option RecM) := (bestK (rowC T P K) out m k).map (Option.map (fromM T P K))
theorem bestR_zero (T P : List Tr) (K out : List Int) (m : Nat) : bestR T P K out m 0 = List.replicate m none := by simp [bestR, bestK]
theorem bestR_len (T P : List Tr) (K out : List Int) (m k : Nat) : (bestR T P K out m k).length = m := by simp [bestR, bestK_len]
theorem bestR_get {T P : List Tr} {K out : List Int} {m k n : Nat} (hn : n < m) : (bestR T P K out m k)[n]? = some (((bestK (rowC T P K) out m k).getD n none).map (fromM T P K)) := by
  have hl : n < (bestK (rowC T P K) out m k).length := by rw [bestK_len]; exact hn
  unfold bestR
  rw [List.getElem?_map, List.getElem?_eq_getElem hl]
  simp [List.getD, List.getElem?_eq_getElem hl]
/-- One corner more: it is put, or not. -/
theorem bestR_put {T P : List Tr} {K out : List Int} {m k n : Nat} (hn : at_ out (k / 3) = (n : Int)) (h : pickC (rowC T P K) ((bestK (rowC T P K) out m k).getD n none) k = some k) : bestR T P K out m (k + 1) = (bestR T P K out m k).set n (some (fromM T P K k)) := by
  unfold bestR
  rw [bestK_succ]
  unfold bestS
  rw [hn, Int.toNat_natCast, h, List.map_set]
  rfl
theorem bestR_keep {T P : List Tr} {K out : List Int} {m k n : Nat} (hn : at_ out (k / 3) = (n : Int)) (h : pickC (rowC T P K) ((bestK (rowC T P K) out m k).getD n none) k = (bestK (rowC T P K) out m k).getD n none) : bestR T P K out m (k + 1) = bestR T P K out m k := by
  unfold bestR
  rw [bestK_succ]
  unfold bestS
  rw [hn, Int.toNat_natCast, h]
  congr 1
  apply List.ext_getElem?
  intro j
  rw [List.getElem?_set]
  split
  · subst j
    split
    · rename_i hl
      simp [List.getD, List.getElem?_eq_getElem hl]
    · rename_i hl
      rw [List.getElem?_eq_none (by omega)]
  · rfl
theorem bestR_end {T P : List Tr} {K out : List Int} {m : Nat} (h : Shl T out) (hm : HasP T out m) : bestR T P K out m (3 * T.length) = (recsM T P K out m).map some := by
  apply List.ext_getElem?
  intro n
  by_cases hn : n < m
  · have h1 := bestK_at (rw_ := rowC T P K) (out := out) (m := m) (k := 3 * T.length) (fun c hc => h.nn (c / 3) (by omega)) hn
    rw [bestR_get hn]
    simp only [List.getD, h1, Option.getD_some, (bestC_ok (P := P) (K := K) hm hn).1]
    simp [recsM, hn]
  · rw [List.getElem?_eq_none (by rw [bestR_len]; omega), List.getElem?_eq_none (by simp [recsM]; omega)]
theorem cntF_ge {out : List Int} : ∀ (k : Nat), k ≤ out.length → ∀ j, j < k → at_ out j + 1 ≤ cntL (out.take k)
  | 0, _, j, hj => by omega
  | k + 1, hk, j, hj => by
    rw [cntL_take (j := k) (out := out) (by omega)]
    by_cases e : j = k
    · subst e
      omega
    · have := cntF_ge (out := out) k (by omega) j (by omega)
      omega
theorem cntF_lt {out : List Int} {j : Nat} (hj : j < out.length) : at_ out j < cntL out := by
  have := cntF_ge out.length (Nat.le_refl _) j hj
  rw [List.take_length] at this
  omega
theorem below_dnF {B : Nat} {w a : World} (h : Below B w a) (n : Nat) : Below B w (a.drewN n) := ⟨h.os, h.tape, h.output, h.size, h.block⟩
theorem StF.drewN {w1 W : World} {b : Nat} {vO : Value} {out : List Int} {l : List (Option RecM)} (h : StF w1 W b vO out l) (n : Nat) : StF w1 (W.drewN n) b vO out l := h.below (below_dnF (Below.refl _ _) n)
theorem StF.getN {w1 W : World} {b n : Nat} {vO : Value} {out : List Int} {l : List (Option RecM)} (h : StF w1 W b vO out l) (hn : l[n]? = some none) : W.cell? ⟨b, n * 6, none⟩ = some (.slice none 0 0) := (h.get hn).2.2
theorem StF.getS {w1 W : World} {b n : Nat} {vO : Value} {out : List Int} {l : List (Option RecM)} {r : RecM} (h : StF w1 W b vO out l) (hn : l[n]? = some (some r)) : ∃ a c, W.cell? ⟨b, n * 6, none⟩ = some (.slice a r.row.length c) ∧ W.ownsRow w1.heap.size 3 1 (.slice a r.row.length c) r.row.length (intsV r.row) := (h.get hn).2.2
theorem RecOwn.row {w : World} {base : Nat} {vR vT vP vK vO : Value} {n : Int} {r : RecM} (h : RecOwn w base #[vR, .int .i64 n, vT, vP, vK, vO] r) : w.ownsRow base 3 1 vR r.row.length (intsV r.row) := by
  obtain ⟨a, b, c, d, e, h0, h1, -⟩ := h
  have : vR = a := by simpa using congrArg (fun x : Array Value => x[0]!) h0
  rw [this]
  exact h1
theorem from_row (T P : List Tr) (K : List Int) {c : Nat} (hc : c < 3 * T.length) : 2 ≤ (fromM T P K c).row.length ∧ (fromM T P K c).row.length ≤ 2 + 15 * T.length := by
  obtain ⟨a, b, d, e, f⟩ := from_len T P K hc
  have h2 := (rtN_lens hc).2.1
  have : (fromM T P K c).row.length = 2 + 3 * (fromM T P K c).T.length + (3 * (fromM T P K c).P.length + (fromM T P K c).K.length) := by
    unfold RecM.row
    rw [List.length_append, rowM_len, List.length_append, flatT_length]
  omega
theorem bestK_lt {rw_ : Nat → List Int} {out : List Int} {m k n d : Nat} (h : (bestK rw_ out m k).getD n none = some d) : d < k := by
  induction k with
  | zero =>
    unfold bestK at h
    simp only [List.range_zero, List.foldl_nil, List.getD] at h
    rw [List.getElem?_replicate] at h
    split at h <;> simp at h
  | succ k ih =>
    rw [bestK_succ] at h
    unfold bestS at h
    rw [List.getD, List.getElem?_set] at h
    split at h
    · rename_i he
      split at h
      · simp only [Option.getD_some] at h
        unfold pickC at h
        split at h
        · injection h with h
          omega
        · rename_i d' hd'
          split at h
          · injection h with h
            omega
          · injection h with h
            subst h
            rw [he] at hd'
            have := ih hd'
            omega
      · simp at h
    · have := ih (by rw [List.getD]; exact h)
      omega
theorem ws3_app (a b : List Tr) : ws3 (a ++ b) = ws3 a ++ ws3 b := by simp [ws3, flatT]
theorem ws3_one (l : List Tr) : ∀ y ∈ ws3 l, y.oneCell' = true := by
  intro y hy
  unfold ws3 at hy
  rw [List.mem_map] at hy
  obtain ⟨t, -, rfl⟩ := hy
  rfl
theorem intsV_app9 (a b : List Int) : intsV (a ++ b) = intsV a ++ intsV b := by simp [intsV]
theorem intsV_one9 (l : List Int) : ∀ y ∈ intsV l, y.oneCell' = true := by
  intro y hy
  unfold intsV at hy
  rw [List.mem_map] at hy
  obtain ⟨t, -, rfl⟩ := hy
  rfl
theorem rec_cell {W : World} {b : Nat} {ys : List RcV} (h : Blk W b 127 (ys.flatMap RcV.enc).toArray) {k : Nat} {y : RcV} (hy : ys[k]? = some y) : ∀ i, i < 6 → W.cell? ⟨b, k * 6 + i, none⟩ = some (y.enc)[i]! := by
  intro i hi
  haveI : Inhabited RcV := ⟨y⟩
  have hl : k < ys.length := (List.getElem?_eq_some_iff.1 hy).1
  rw [h.cell]
  rw [List.getElem?_toArray, flatMap_at enc_len (by decide) ys (k * 6 + i) (by omega)]
  have e1 : (k * 6 + i) / 6 = k := by omega
  have e2 : (k * 6 + i) % 6 = i := by omega
  rw [e1, e2, getElem!_pos ys k hl]
  rw [List.getElem?_eq_getElem hl] at hy
  rw [Option.some.inj hy]
theorem fourG {w : World} {b : Nat} {t : TypeId} {x0 x1 x2 x3 : Value} (h : Blk w b t #[x0, x1, x2, x3]) : b < w.heap.size ∧ w.cell? ⟨b, 0, none⟩ = some x0 ∧ w.frozen? ⟨b, 0, none⟩ = false ∧ w.cell? ⟨b, 1, none⟩ = some x1 ∧ w.frozen? ⟨b, 1, none⟩ = false ∧ w.cell? ⟨b, 2, none⟩ = some x2 ∧ w.frozen? ⟨b, 2, none⟩ = false ∧ w.cell? ⟨b, 3, none⟩ = some x3 ∧ w.frozen? ⟨b, 3, none⟩ = false :=
  ⟨h.lt, h.cell 0, h.frozen 0, h.cell 1, h.frozen 1, h.cell 2, h.frozen 2, h.cell 3, h.frozen 3⟩
section
variable {w w0 : World} {b : Nat} {t : TypeId} {x0 x1 x2 x3 : Value} (y0 y1 y2 y3 : Value)
def set2 (w : World) (b : Nat) (y0 y1 : Value) : World := (w.setCell ⟨b, 0, none⟩ y0).setCell ⟨b, 1, none⟩ y1
def set4 (w : World) (b : Nat) (y0 y1 y2 y3 : Value) : World := (((w.setCell ⟨b, 0, none⟩ y0).setCell ⟨b, 1, none⟩ y1).setCell ⟨b, 2, none⟩ y2).setCell ⟨b, 3, none⟩ y3
theorem blk_set2 (h : Blk w b t #[x0, x1, x2, x3]) : Blk (set2 w b y0 y1) b t #[y0, y1, x2, x3] := by
  have := (h.set_ 0 y0).set_ 1 y1
  simpa [set2] using this
theorem blk_set4 (h : Blk w b t #[x0, x1, x2, x3]) : Blk (set4 w b y0 y1 y2 y3) b t #[y0, y1, y2, y3] := by
  have := (((h.set_ 0 y0).set_ 1 y1).set_ 2 y2).set_ 3 y3
  simpa [set4] using this
theorem own_set2 {base n s : Nat} {e : TypeId} {v : Value} {xs : List Value} {cs : Array Value} (hr : w.ownsRow base e s v n xs) (h : Blk w b t cs) (hne : e ≠ t) : (set2 w b y0 y1).ownsRow base e s v n xs :=
  own_alloc_st (own_alloc_st hr h hne) (h.set_ 0 y0) hne
theorem own_set4 {base n s : Nat} {e : TypeId} {v : Value} {xs : List Value} {cs : Array Value} (hr : w.ownsRow base e s v n xs) (h : Blk w b t cs) (hne : e ≠ t) : (set4 w b y0 y1 y2 y3).ownsRow base e s v n xs :=
  own_alloc_st (own_alloc_st (own_alloc_st (own_alloc_st hr h hne) (h.set_ 0 y0) hne) ((h.set_ 0 y0).set_ 1 y1) hne) (((h.set_ 0 y0).set_ 1 y1).set_ 2 y2) hne
theorem below_set2 {B : Nat} (h : Below B w0 w) (hb : B ≤ b) : Below B w0 (set2 w b y0 y1) :=
  (h.setCell (p := ⟨b, 0, none⟩) hb y0).setCell (p := ⟨b, 1, none⟩) hb y1
theorem below_set4 {B : Nat} (h : Below B w0 w) (hb : B ≤ b) : Below B w0 (set4 w b y0 y1 y2 y3) :=
  (((h.setCell (p := ⟨b, 0, none⟩) hb y0).setCell (p := ⟨b, 1, none⟩) hb y1).setCell (p := ⟨b, 2, none⟩) hb y2).setCell (p := ⟨b, 3, none⟩) hb y3
theorem far_set2 {g : Nat} {u : TypeId} {cs : Array Value} (h : Blk w g u cs) (hne : g ≠ b) : Blk (set2 w b y0 y1) g u cs :=
  (h.far (p := ⟨b, 0, none⟩) hne y0).far (p := ⟨b, 1, none⟩) hne y1
end
theorem rc_fields {w : World} {base : Nat} {y : RcV} (h : RecOwn w base y.enc.toArray y.m) : y.N = y.m.N ∧ w.ownsRow base 72 3 y.vT y.m.T.length (ws3 y.m.T) := by
  obtain ⟨yR, yN, yT, yP, yK, yO, r⟩ := y
  obtain ⟨vR, vT2, vP2, vK2, vO2, e, g1, g2, g3, g4, g5⟩ := h
  dsimp only [RcV.enc] at e g2
  have e2 : [yR, .int .i64 yN, yT, yP, yK, yO] = [vR, .int .i64 r.N, vT2, vP2, vK2, vO2] := by simpa using congrArg Array.toList e
  simp only [List.cons.injEq, Value.int.injEq, true_and, and_true] at e2
  obtain ⟨rfl, rfl, rfl, rfl, rfl, rfl⟩ := e2
  exact ⟨rfl, g2⟩
theorem soups_rd {w5 W : World} {base bx : Nat} {ys : List RcV} {S : List RecM} {P : List Tr} {K O : List Int} {vA vP vK vO : Value} (hA : AcF w5 W bx ys P K O vA vP vK vO) (hys : ys.map (·.m) = S) (hyr : ∀ x ∈ ys, RecOwn w5 base x.enc.toArray x.m) : SoupsRd W vA (soupsM S) := by
  obtain ⟨aA, cA, rfl⟩ := ownsRow_slice hA.rA
  have hl : (soupsM S).length = ys.length := by rw [← hys]; simp [soupsM]
  refine ⟨aA, cA, by rw [hl], fun k N T hk => ?_⟩
  have hky : k < ys.length := by
    have := (List.getElem?_eq_some_iff.1 hk).1
    omega
  obtain ⟨y, hy⟩ : ∃ y, ys[k]? = some y := ⟨ys[k], List.getElem?_eq_getElem hky⟩
  obtain ⟨hN, hT⟩ := rc_fields (hyr y (List.mem_of_getElem? hy))
  have e : (N, T) = (y.m.N, y.m.T) := by
    rw [← hys] at hk
    unfold soupsM at hk
    rw [List.map_map, List.getElem?_map, hy] at hk
    exact (Option.some.inj hk).symm
  injection e with e1 e2
  subst e1
  subst e2
  obtain ⟨gA, capA, eA, -, hgl⟩ := hA.rA.form (by omega)
  cases eA
  haveI : Inhabited RcV := ⟨y⟩
  have hc : ∀ i, i < 2 → W.cell? ⟨gA, k * 2 + i, none⟩ = some ([Value.int .i64 y.N, y.vT][i]!) := by
    intro i hi
    rw [hA.rA.cellAt (k * 2 + i) (by omega), flatMap_at (k := 2) (enc := fun x : RcV => [Value.int .i64 x.N, x.vT]) (fun _ => rfl) (by decide) ys (k * 2 + i) (by omega)]
    have e1 : (k * 2 + i) / 2 = k := by omega
    have e2 : (k * 2 + i) % 2 = i := by omega
    rw [e1, e2, getElem!_pos ys k hky]
    rw [List.getElem?_eq_getElem hky] at hy
    rw [Option.some.inj hy]
  have h0 := hc 0 (by decide)
  have h1 := hc 1 (by decide)
  rw [← hN]
  exact ⟨gA, 0, y.vT, rfl, hgl, by rw [Nat.zero_add]; exact h0, by rw [Nat.zero_add]; exact h1, TrisRd.of_row (own_below hT hA.bel)⟩
set_option maxRecDepth 100000 in
set_option maxHeartbeats 4000000 in
theorem form_any (N : Int) (T P : List Tr) (K : List Int) (vT vP vK : Value) (w : World) (hS : Surf N T) (hTr : TrisRd w vT T) (hP : TrisRd w vP P) (hK : IntsRd w vK K) (hPl : P ≠ [] → (P.length : Int) = N) (hKl : K ≠ [] → K.length = 3 * T.length) (h60 : N ≤ 60) (hl : T.length ≤ 1000) :
    Calls Tryz.prog 45 #[.agg #[.int .i64 N, vT, vP, vK]] w fun e w' => ∃ (out : List Int) (m : Nat) (vT' vP' vK' vO' : Value), Shl T out ∧ (m : Int) = cntL out ∧ e = .returned (.tuple #[.agg #[.int .i64 (joinM (soupsM (sortM T P K out m))).1, vT', vP', vK'], vO']) ∧
      w'.ownsRow w.heap.size 72 3 vT' (joinM (soupsM (sortM T P K out m))).2.length (ws3 (joinM (soupsM (sortM T P K out m))).2) ∧
      w'.ownsRow w.heap.size 111 3 vP' ((sortM T P K out m).flatMap (·.P)).length (ws3 ((sortM T P K out m).flatMap (·.P))) ∧
      w'.ownsRow w.heap.size 3 1 vK' ((sortM T P K out m).flatMap (·.K)).length (intsV ((sortM T P K out m).flatMap (·.K))) ∧
      w'.ownsRow w.heap.size 3 1 vO' ((sortM T P K out m).flatMap (·.old)).length (intsV ((sortM T P K out m).flatMap (·.old))) ∧ Below w.heap.size w w' := by
  obtain ⟨iR, hR, hr0, hr1, hr2⟩ := info_parts infoRc
  obtain ⟨F, hF⟩ : ∃ F, T.length = F := ⟨_, rfl⟩
  have hB0 : Below w.heap.size w ((w.alloc (.cells #[.int .i64 N, vT, vP, vK] 65)).alloc (.cells #[.int .i64 0, .slice none 0 0, .slice none 0 0, .slice none 0 0] 65)) := ((Below.refl _ _).alloc (Nat.le_refl _) _).alloc (by simp) _
  have hb1 := (Blk.new w 65 #[.int .i64 N, vT, vP, vK]).alloc (.cells #[.int .i64 0, .slice none 0 0, .slice none 0 0, .slice none 0 0] 65)
  have hb2 : Blk ((w.alloc (.cells #[.int .i64 N, vT, vP, vK] 65)).alloc (.cells #[.int .i64 0, .slice none 0 0, .slice none 0 0, .slice none 0 0] 65)) (w.heap.size + 1) 65 #[.int .i64 0, .slice none 0 0, .slice none 0 0, .slice none 0 0] := blk_new_at (by simp)
  have HPr := Lib.hid (fun (W : World) (hW : Below w.heap.size w W) => hP.below hW)
  have HKr := Lib.hid (fun (W : World) (hW : Below w.heap.size w W) => hK.below hW)
  have HN := Lib.hid (new_any N vT T _ (hTr.below hB0) (by omega))
  obtain ⟨aT, cT, rfl, -⟩ := hTr
  have HF := Lib.hid hF
  rw [hF] at HN hl hKl hB0 hb1 hb2 ⊢
  obtain ⟨l1, x0, x1, x2, x3⟩ := fourF hb1
  have HB0 := Lib.hid hB0
  have HB1 := Lib.hid hb1
  have HB2 := Lib.hid hb2
  have HS := Lib.hid hS
  clear hB0 hb1 hb2 hP hK
  go_enter Tryz.func45, Tryz.ntmps45
  go_upto_region 2 with (go_at_call 33; go_loud (refine HN.out.mono ?_; rintro e w1 ⟨⟨-, g, rfl, hTab, hg⟩ | ⟨hno, -⟩, hbN⟩; rotate_left; exact absurd HS.out hno; unfold witV))
  have hTab1 := hTab.below ((Below.refl w1.heap.size w1).alloc (Nat.le_refl _) (.cells #[.int .i64 0, .int .i64 0, .int .i64 0] 74))
  have hbW := HB0.out.trans ((hbN.alloc hbN.size (.cells #[.int .i64 0, .int .i64 0, .int .i64 0] 74)).mono HB0.out.size)
  have HB1' := Lib.hid ((HB1.out.below hbN HB1.out.lt).alloc (.cells #[.int .i64 0, .int .i64 0, .int .i64 0] 74))
  have HB2' := Lib.hid ((HB2.out.below hbN HB2.out.lt).alloc (.cells #[.int .i64 0, .int .i64 0, .int .i64 0] 74))
  clear hTab hg hbN x0 x1 x2 x3 l1
  generalize w1.alloc (.cells #[.int .i64 0, .int .i64 0, .int .i64 0] 74) = W1 at *
  have HT := Lib.hid (fun (W : World) (hW : Below W1.heap.size W1 W) => hTab1.below hW)
  have HBW := Lib.hid hbW
  have HC := Lib.hid (count_any g N T W1 hTab1 HS.out.twice)
  have hsz1 := hbW.size
  clear hTab1 hbW
  go_upto_region 3 with (first
    | (go_at_call 72; go_loud (refine HC.out.mono ?_; rintro e w2 ⟨out, rfl, hsh, hlt, hb2⟩; obtain ⟨m, hm⟩ : ∃ m : Nat, cntL out = (m : Int) := ⟨(cntL out).toNat, by have := (cntL_bd (out := out) (m := (T.length : Int)) (fun j hj => by have := hlt j (by rw [← hsh.len]; exact hj); omega) (by omega) out.length (Nat.le_refl _)).1; rw [List.take_length] at this; omega⟩; rw [hm]; have hmP := hsh.hasP hm.symm; have hm20 : m ≤ 20 := (by have := hmP.le HS.out hsh; have := HS.out.n0; omega)))
    | (at_make; refine wpList_make_full _ rfl (.tmp 23) (.tmp 23) 123 rfl W1.heap.size 127 iR _ 6 Tryz.underlying123 hR hr0 hr1 .i64 .i64 _ _ m rfl rfl rfl rfl (by rw [hr2]; omega) (by unfold maxLen; omega) hb2.size ?_; intro w3 hr3 hg3))
  have hb3 := hb2.grown hg3 hb2.size (fun j e => by cases e)
  rw [made_rc] at hr3
  have HOf := Lib.hid (of_any g N T w3 (HT.out w3 hb3) HS.out.twice)
  have Hsh := Lib.hid hsh
  have HmP := Lib.hid hmP
  have Hm := Lib.hid hm
  have hz23 := hg3.size
  clear hlt hsh hmP hm hg3
  go_wp2_with (go_at_call 73; go_loud (refine HOf.out.mono ?_; rintro e w4 ⟨vO, out', rfl, hro, hsh', -, hb4⟩; rw [Shl.one hsh' Hsh.out, HF.out] at hro; obtain ⟨aO, cO, rfl⟩ := ownsRow_slice hro; clear hsh'))
  generalize hbb : w2.heap.size = b at *
  have HI0 := Lib.hid (show StF W1 w4 b (.slice aO F cO) out (bestR T P K out m (3 * 0)) from by
    rw [Nat.mul_zero, bestR_zero]
    have hol : out.length = F := by rw [Hsh.out.len, HF.out]
    refine StF.first (own_below hr3 hb4) ?_ (hb3.trans (hb4.mono hb3.size))
    rw [hol]
    exact own_lower hro hb3.size)
  clear hr3 hb3 hro hb4 hb2 hbb hz23
  go_loopw [28] (fun i wr => ∃ k : Nat, k ≤ F ∧ i = .int .i64 k ∧ StF W1 wr b (.slice aO F cO) out (bestR T P K out m (3 * k))) (fun i _ => F - (intOf i).toNat)
  case atStart => exact ⟨0, Nat.zero_le _, rfl, HI0.out⟩
  case round =>
    rename World => wr
    obtain ⟨k, hk, rfl, hI⟩ := hrel
    by_cases hlt : k < F
    · have hro := hI.row
      have hol : out.length = F := by rw [Hsh.out.len, HF.out]
      rw [hol] at hro
      obtain ⟨gO, capO, eO, -, -⟩ := hro.form (by omega)
      cases eO
      obtain ⟨n, hn⟩ : ∃ n : Nat, at_ out k = (n : Int) := ⟨(at_ out k).toNat, by have := Hsh.out.nn k (by rw [HF.out]; exact hlt); omega⟩
      have hnm : n < m := by have := cntF_lt (out := out) (j := k) (by omega); rw [Hm.out, hn] at this; omega
      have hcO : wr.cell? ⟨gO, k, none⟩ = some (.int .i64 (n : Int)) := by
        rw [hro.cellAt k (by omega), intsV_at (by omega), hn]
      have HI := Lib.hid hI
      have Hn := Lib.hid hn
      have hki : (k : Int) < (F : Int) := by omega
      have hlk : (k : Int) ≤ 1000 := by omega
      clear hI hro hn hol
      go_wp2
      go_loopw [9] (fun i wx => ∃ j : Nat, j ≤ 3 ∧ i = .int .i64 ((3 * k + j : Nat) : Int) ∧ StF W1 wx b (.slice (some ⟨gO, 0, none⟩) F cO) out (bestR T P K out m (3 * k + j))) (fun i _ => 3 * k + 3 - (intOf i).toNat)
      case atStart => exact ⟨0, by omega, by go_num, HI.out⟩
      case round =>
        rename World => wx
        obtain ⟨j, hj, rfl, hI'⟩ := hrel
        by_cases hj3 : j < 3
        · have hc3 : (3 * k + j) / 3 = k := by omega
          obtain ⟨c, hc⟩ : ∃ c, 3 * k + j = c := ⟨_, rfl⟩
          rw [hc] at hI' hc3 ⊢
          have hcF : c < 3 * T.length := by rw [HF.out]; omega
          have hcc : (c : Int) < 3 * (k : Int) + 3 := by omega
          have hlc : (c : Int) ≤ 3003 := by omega
          have hat : at_ out (c / 3) = (n : Int) := by rw [hc3]; exact Hn.out
          obtain ⟨l1, x0, x1, x2, x3⟩ := fourF (HB1'.out.below hI'.bel HB1'.out.lt)
          have HFr := Lib.hid (from_any g N T wx c N (.slice aT F cT) vP vK P K ⟨_, _, _, rfl⟩ (HPr.out wx (HBW.out.trans (hI'.bel.mono HBW.out.size))) (HKr.out wx (HBW.out.trans (hI'.bel.mono HBW.out.size))) (HT.out wx hI'.bel) hcF hPl (fun h => by rw [HF.out]; exact hKl h))
          have HI' := Lib.hid hI'
          have Hc := Lib.hid hc
          have hz9 := hI'.bel.size
          have Hat := Lib.hid hat
          clear hI' hc hcF hc3 hat
          obtain ⟨r, hr⟩ : ∃ r, fromM T P K c = r := ⟨_, rfl⟩
          rw [hr] at HFr
          have HR := Lib.hid hr
          have hrl := from_row T P K (c := c) (by rw [HF.out]; have := Hc.out; omega)
          rw [hr, HF.out] at hrl
          clear hr
          go_upto_region 10 with (go_at_call 74; go_loud (refine HFr.out.mono ?_; rintro e wF ⟨cs, rfl, ⟨vR, vT2, vP2, vK2, vO2, rfl, hrec⟩, hbF⟩; obtain ⟨aR, cR, rfl⟩ := ownsRow_slice hrec.1; obtain ⟨aT2, cT2, rfl⟩ := ownsRow_slice hrec.2.1; obtain ⟨aP2, cP2, rfl⟩ := ownsRow_slice hrec.2.2.1; obtain ⟨aK2, cK2, rfl⟩ := ownsRow_slice hrec.2.2.2.1; obtain ⟨aO2, cO2, rfl⟩ := ownsRow_slice hrec.2.2.2.2))
          have hrcF : RecOwn wF wx.heap.size #[.slice aR r.row.length cR, .int .i64 r.N, .slice aT2 r.T.length cT2, .slice aP2 r.P.length cP2, .slice aK2 r.K.length cK2, .slice aO2 r.old.length cO2] r := ⟨_, _, _, _, _, rfl, hrec⟩
          have hbA := (Below.refl wF.heap.size wF).alloc (Nat.le_refl _) (.cells #[.slice aR r.row.length cR, .int .i64 r.N, .slice aT2 r.T.length cT2, .slice aP2 r.P.length cP2, .slice aK2 r.K.length cK2, .slice aO2 r.old.length cO2] 127)
          have HRc := Lib.hid ((hrcF.below hbA).lower hz9)
          have hIA := (HI'.out.below hbF).below hbA
          have HIA := Lib.hid hIA
          have bq := Blk.new wF 127 #[.slice aR r.row.length cR, .int .i64 r.N, .slice aT2 r.T.length cT2, .slice aP2 r.P.length cP2, .slice aK2 r.K.length cK2, .slice aO2 r.old.length cO2]
          obtain ⟨lq, y0, g0, y1, g1, y2, g2, y3, g3, y4, g4, y5, g5⟩ := sixF bq
          have hget := hIA.get (bestR_get (T := T) (P := P) (K := K) (out := out) (m := m) (k := c) hnm)
          generalize hWA : wF.alloc (.cells #[.slice aR r.row.length cR, .int .i64 r.N, .slice aT2 r.T.length cT2, .slice aP2 r.P.length cP2, .slice aK2 r.K.length cK2, .slice aO2 r.old.length cO2] 127) = wA at *
          obtain ⟨hfz, hcl, -⟩ := hget
          generalize wF.heap.size = q at *
          clear hrec hrcF hbA hIA bq x0 x1 x2 x3 l1 hWA hbF
          have hni : (n : Int) < (m : Int) := by omega
          have hrI := IntsRd.of_row HRc.out.row rfl
          cases ho : (bestK (rowC T P K) out m c).getD n none with
          | none =>
            have z0 := HIA.out.getN (n := n) (by rw [bestR_get hnm, ho]; rfl)
            have HPut := Lib.hid (show bestR T P K out m (c + 1) = (bestR T P K out m c).set n (some r) from by rw [bestR_put Hat.out (by rw [ho]; rfl), HR.out])
            clear ho hrI
            have q0 := hfz (n * 6)
            have q1 := hfz (n * 6 + 1)
            have q2 := hfz (n * 6 + 2)
            have q3 := hfz (n * 6 + 3)
            have q4 := hfz (n * 6 + 4)
            have q5 := hfz (n * 6 + 5)
            obtain ⟨u1, z1⟩ := hcl 1 (by decide)
            obtain ⟨u2, z2⟩ := hcl 2 (by decide)
            obtain ⟨u3, z3⟩ := hcl 3 (by decide)
            obtain ⟨u4, z4⟩ := hcl 4 (by decide)
            obtain ⟨u5, z5⟩ := hcl 5 (by decide)
            clear hfz hcl
            go_quiet (fail)
            have h9 := (HIA.out.drewN nq).put (n := n) (x := ⟨.slice aR r.row.length cR, r.N, .slice aT2 r.T.length cT2, .slice aP2 r.P.length cP2, .slice aK2 r.K.length cK2, .slice aO2 r.old.length cO2, r⟩) (by rw [bestR_len]; exact hnm) (HRc.out.below (below_dnF (Below.refl _ _) nq))
            unfold set6a at h9
            have HIN := Lib.hid h9
            clear h9
            go_wp2
            go_roundw
            case measure => simp [intOf]; have := Hc.out; omega
            case rel => exact ⟨j + 1, by omega, by rw [show 3 * k + (j + 1) = c + 1 from by have := Hc.out; omega]; go_num, by rw [show 3 * k + (j + 1) = c + 1 from by have := Hc.out; omega, HPut.out]; exact HIN.out⟩
          | some d =>
            obtain ⟨a', c', z0, hrow'⟩ := HIA.out.getS (n := n) (r := fromM T P K d) (by rw [bestR_get hnm, ho]; rfl)
            obtain ⟨row', hrw⟩ : ∃ row', (fromM T P K d).row = row' := ⟨_, rfl⟩
            have hd3 := bestK_lt (rw_ := rowC T P K) (out := out) (m := m) (k := c) (n := n) (d := d) ho
            have hl2 := (from_row T P K (c := d) (by rw [HF.out]; have := Hc.out; omega)).1
            rw [hrw] at z0 hrow' hl2
            have hrI' := IntsRd.of_row hrow' rfl
            obtain ⟨L', hL'⟩ : ∃ L', row'.length = L' := ⟨_, rfl⟩
            have HCmp := Lib.hid (fun (x : Nat) => compareL_any _ _ r.row row' (wA.drewN x) (hrI.below (below_dnF (Below.refl _ _) x)) (hrI'.below (below_dnF (Below.refl _ _) x)))
            rw [hL'] at z0 hl2 HCmp
            have hd0 : ((L' : Int) == 0) = false := by simp; omega
            have hpk : pickC (rowC T P K) (some d) c = if cmpL r.row row' < 0 then some c else some d := by
              show (if cmpL (fromM T P K c).row (fromM T P K d).row < 0 then some c else some d) = _
              rw [HR.out, hrw]
            by_cases hlt2 : cmpL r.row row' < 0
            · have hdc : decide (cmpL r.row row' < 0) = true := by simpa using hlt2
              have HPut := Lib.hid (show bestR T P K out m (c + 1) = (bestR T P K out m c).set n (some r) from by rw [bestR_put Hat.out (by rw [ho, hpk, if_pos hlt2]), HR.out])
              clear ho hrI hrI' hrow' hpk hlt2 hrw hL'
              generalize cmpL r.row row' = cm at *
              have q0 := hfz (n * 6)
              have q1 := hfz (n * 6 + 1)
              have q2 := hfz (n * 6 + 2)
              have q3 := hfz (n * 6 + 3)
              have q4 := hfz (n * 6 + 4)
              have q5 := hfz (n * 6 + 5)
              obtain ⟨u1, z1⟩ := hcl 1 (by decide)
              obtain ⟨u2, z2⟩ := hcl 2 (by decide)
              obtain ⟨u3, z3⟩ := hcl 3 (by decide)
              obtain ⟨u4, z4⟩ := hcl 4 (by decide)
              obtain ⟨u5, z5⟩ := hcl 5 (by decide)
              clear hfz hcl
              go_quiet ((go_at_call 67; exact Calls.quiet_of_same (HCmp.out _)))
              have h9 := (HIA.out.drewN nq).put (n := n) (x := ⟨.slice aR r.row.length cR, r.N, .slice aT2 r.T.length cT2, .slice aP2 r.P.length cP2, .slice aK2 r.K.length cK2, .slice aO2 r.old.length cO2, r⟩) (by rw [bestR_len]; exact hnm) (HRc.out.below (below_dnF (Below.refl _ _) nq))
              unfold set6a at h9
              have HIN := Lib.hid h9
              clear h9
              go_wp2
              go_roundw
              case measure => simp [intOf]; have := Hc.out; omega
              case rel => exact ⟨j + 1, by omega, by rw [show 3 * k + (j + 1) = c + 1 from by have := Hc.out; omega]; go_num, by rw [show 3 * k + (j + 1) = c + 1 from by have := Hc.out; omega, HPut.out]; exact HIN.out⟩
            · have hdc : decide (cmpL r.row row' < 0) = false := by simpa using hlt2
              have HKp := Lib.hid (show bestR T P K out m (c + 1) = bestR T P K out m c from bestR_keep Hat.out (by rw [ho, hpk, if_neg hlt2]))
              clear ho hrI hrI' hrow' hpk hlt2 hrw hL' hfz hcl
              generalize cmpL r.row row' = cm at *
              go_quiet ((go_at_call 67; exact Calls.quiet_of_same (HCmp.out _)))
              have HIN := Lib.hid (HIA.out.drewN nq)
              go_wp2
              go_roundw
              case measure => simp [intOf]; have := Hc.out; omega
              case rel => exact ⟨j + 1, by omega, by rw [show 3 * k + (j + 1) = c + 1 from by have := Hc.out; omega]; go_num, by rw [show 3 * k + (j + 1) = c + 1 from by have := Hc.out; omega, HKp.out]; exact HIN.out⟩
        · obtain rfl : j = 3 := by omega
          have HI' := Lib.hid (show StF W1 wx b (.slice (some ⟨gO, 0, none⟩) F cO) out (bestR T P K out m (3 * (k + 1))) from hI')
          clear hI'
          go_wp2
          go_roundw
          case measure => simp [intOf]; omega
          case rel => exact ⟨k + 1, by omega, by go_num, HI'.out⟩
    · obtain rfl : F = k := by omega
      have hlen : (recsM T P K out m).length = m := by simp [recsM]
      have hRs := hI.all (rs := recsM T P K out m) (by rw [← HF.out]; exact bestR_end Hsh.out HmP.out) (by rw [hlen]; unfold maxLen; omega)
      have hSt : Calls Tryz.prog 75 #[.slice (some ⟨b, 0, none⟩) m m, .func (.func 76) #[] #[]] wr fun e w' => e = .returned (.tuple #[]) ∧ Recs w' W1.heap.size b (sortM T P K out m) ∧ wr.grownBy w' (some b) := by
        by_cases h0 : 0 < m
        · refine stable_any wr W1.heap.size b m _ hRs hlen hm20 h0 (fun r hr => ?_)
          obtain ⟨n, hn, rfl⟩ := List.mem_map.1 hr
          have := (from_row T P K (bestC_ok (P := P) (K := K) HmP.out (List.mem_range.1 hn)).2.1).2
          rw [HF.out] at this
          omega
        · obtain rfl : m = 0 := by omega
          refine (stable_none _ _ wr).mono ?_
          rintro e w' ⟨rfl, rfl⟩
          exact ⟨rfl, hRs, World.grownBy.refl _ _⟩
      have HSt := Lib.hid hSt
      have HB := Lib.hid (And.intro hI.bel hI.le)
      clear hI hRs hSt hlen
      go_upto_region 14 with (go_at_call 75; go_loud (refine HSt.out.mono ?_; rintro e w5 ⟨rfl, hrs5, hg5⟩))
      have HB5 := Lib.hid (HB.out.1.grown hg5 HB.out.1.size (fun j e => by cases e; exact HB.out.2))
      obtain ⟨hbb, -, ys, hys, hyr, hyB⟩ := hrs5
      have HSl := Lib.hid (sort_len T P K out m)
      have HSf := Lib.hid (And.intro (sort_fits (P := P) (K := K) HS.out.simple (by rw [HF.out]; exact hl) HmP.out) (soups_bd (P := P) (K := K) Hsh.out HmP.out))
      have HfP := Lib.hid (flat_P (P := P) (K := K) Hsh.out HmP.out)
      have HfK := Lib.hid (flat_K (P := P) (K := K) Hsh.out HmP.out)
      have HfO := Lib.hid (flat_O (P := P) (K := K) Hsh.out HmP.out)
      rw [HF.out] at HSf HfP HfK HfO
      generalize hS5 : sortM T P K out m = S at *
      have HS5 := Lib.hid hS5
      clear hS5
      have hyl : ys.length = m := by rw [← HSl.out, ← hys]; simp
      have HY := Lib.hid (And.intro hys (And.intro hyr hyB))
      have hz5 := HB5.out.size
      have hyB5 := hyB.lt
      clear hg5 hys hyr hyB HI0
      obtain ⟨i2, hj2, b20, b21, b22⟩ := info_parts infoInt
      obtain ⟨i3, hj3, b30, b31, b32⟩ := info_parts infoPt
      obtain ⟨i4, hj4, b40, b41, b42⟩ := info_parts infoSoup
      have HA0 := Lib.hid (show AcF w5 (w5.alloc (.cells #[.int .i64 0, .slice none 0 0, .slice none 0 0, .slice none 0 0] 65)) w5.heap.size (ys.take 0) ((S.take 0).flatMap (·.P)) ((S.take 0).flatMap (·.K)) ((S.take 0).flatMap (·.old)) (.slice none 0 0) (.slice none 0 0) (.slice none 0 0) (.slice none 0 0) from
        ⟨Blk.new w5 _ _, World.ownsRow_nil _ _ _ _, World.ownsRow_nil _ _ _ _, World.ownsRow_nil _ _ _ _, World.ownsRow_nil _ _ _ _, fun j e => by simp [Value.ownBlock] at e, (Below.refl _ _).alloc (Nat.le_refl _) _, Nat.le_refl _⟩)
      go_wp2
      go_loopw [12, 13, 73] (fun vO vA i wy => ∃ k : Nat, k ≤ m ∧ i = .int .i64 k ∧ ∃ vP vK, AcF w5 wy w5.heap.size (ys.take k) ((S.take k).flatMap (·.P)) ((S.take k).flatMap (·.K)) ((S.take k).flatMap (·.old)) vA vP vK vO) (fun _ _ i _ => m - (intOf i).toNat)
      case atStart => exact ⟨0, Nat.zero_le _, rfl, _, _, HA0.out⟩
      case round =>
        rename World => wy
        obtain ⟨k, hk, rfl, vP', vK', hA⟩ := hrel
        by_cases hkm : k < m
        · have hky : k < ys.length := by omega
          obtain ⟨y, hy⟩ : ∃ y, ys[k]? = some y := ⟨ys[k], List.getElem?_eq_getElem hky⟩
          have hSk : S[k]? = some y.m := by rw [← HY.out.1, List.getElem?_map, hy]; rfl
          have hrec := HY.out.2.1 y (List.mem_of_getElem? hy)
          have hcell := rec_cell (HY.out.2.2.below hA.bel hyB5) hy
          have HyT := Lib.hid (show ys.take (k + 1) = ys.take k ++ [y] from by
            rw [List.take_succ_eq_append_getElem hky]
            rw [List.getElem?_eq_getElem hky] at hy
            rw [Option.some.inj hy])
          obtain ⟨yR, yN, yT, yP, yK, yO, r⟩ := y
          dsimp only [RcV.enc] at hrec hcell hSk
          obtain ⟨vR, vT2, vP2, vK2, vO2, e, g1, g2, g3, g4, g5⟩ := hrec
          have e2 : [yR, .int .i64 yN, yT, yP, yK, yO] = [vR, .int .i64 r.N, vT2, vP2, vK2, vO2] := by simpa using congrArg Array.toList e
          simp only [List.cons.injEq, Value.int.injEq, true_and, and_true] at e2
          obtain ⟨rfl, rfl, rfl, rfl, rfl, rfl⟩ := e2
          obtain ⟨aR, cR, rfl⟩ := ownsRow_slice g1
          obtain ⟨aT2, cT2, rfl⟩ := ownsRow_slice g2
          obtain ⟨aP, cP, rfl⟩ := ownsRow_slice g3
          obtain ⟨aK, cK, rfl⟩ := ownsRow_slice g4
          obtain ⟨aO2, cO2, rfl⟩ := ownsRow_slice g5
          have z0 : wy.cell? ⟨b, k * 6, none⟩ = some (.slice aR r.row.length cR) := hcell 0 (by decide)
          have z1 : wy.cell? ⟨b, k * 6 + 1, none⟩ = some (.int .i64 r.N) := hcell 1 (by decide)
          have z2 : wy.cell? ⟨b, k * 6 + 2, none⟩ = some (.slice aT2 r.T.length cT2) := hcell 2 (by decide)
          have z3 : wy.cell? ⟨b, k * 6 + 3, none⟩ = some (.slice aP r.P.length cP) := hcell 3 (by decide)
          have z4 : wy.cell? ⟨b, k * 6 + 4, none⟩ = some (.slice aK r.K.length cK) := hcell 4 (by decide)
          have z5 : wy.cell? ⟨b, k * 6 + 5, none⟩ = some (.slice aO2 r.old.length cO2) := hcell 5 (by decide)
          have tP := HfP.out (k + 1)
          have tK := HfK.out (k + 1)
          have tO := HfO.out (k + 1)
          have HtP := Lib.hid (flat_snoc hSk (·.P))
          have HtK := Lib.hid (flat_snoc hSk (·.K))
          have HtO := Lib.hid (flat_snoc hSk (·.old))
          rw [HtP.out, List.length_append] at tP
          rw [HtK.out, List.length_append] at tK
          rw [HtO.out, List.length_append] at tO
          obtain ⟨Pk, hPk⟩ : ∃ Pk, (S.take k).flatMap (·.P) = Pk := ⟨_, rfl⟩
          obtain ⟨Kk, hKk⟩ : ∃ Kk, (S.take k).flatMap (·.K) = Kk := ⟨_, rfl⟩
          obtain ⟨Ok, hOk⟩ : ∃ Ok, (S.take k).flatMap (·.old) = Ok := ⟨_, rfl⟩
          obtain ⟨Yk, hYk⟩ : ∃ Yk, ys.take k = Yk := ⟨_, rfl⟩
          have hYl : Yk.length ≤ 20 := by rw [← hYk, List.length_take]; omega
          rw [hPk, hKk, hOk, hYk] at hA
          rw [hPk] at HtP tP
          rw [hKk] at HtK tK
          rw [hOk] at HtO tO
          rw [hYk] at HyT
          have HA := Lib.hid hA
          have G := Lib.hid (And.intro g3 (And.intro g4 g5))
          have hzy := hA.bel.size
          have hkxl := hA.kx.lt
          have hkmi : (k : Int) < (m : Int) := by omega
          have HAl := Lib.hid ((hA.alloc (.cells #[.slice aR r.row.length cR, .int .i64 r.N, .slice aT2 r.T.length cT2, .slice aP r.P.length cP, .slice aK r.K.length cK, .slice aO2 r.old.length cO2] 127)).alloc (.cells #[.int .i64 r.N, .slice aT2 r.T.length cT2] 24))
          have hq0 := (Blk.new wy 127 #[.slice aR r.row.length cR, .int .i64 r.N, .slice aT2 r.T.length cT2, .slice aP r.P.length cP, .slice aK r.K.length cK, .slice aO2 r.old.length cO2]).alloc (.cells #[.int .i64 r.N, .slice aT2 r.T.length cT2] 24)
          have HQ0 := Lib.hid hq0
          clear hA g1 g2 g3 g4 g5 hcell hy hSk e hPk hKk hOk hYk hq0
          go_upto_region 21 with (at_builtin; go_loud (refine wpList_append_lies _ rfl (.tmp 77) (.tmp 81) 131 rfl w5.heap.size 24 i4 _ 2 32 Tryz.underlying131 hj4 b40 b41 b42 rfl (by decide) _ _ _ rfl HAl.out.rA ⟨wy.heap.size + 1, 0, none⟩ 1 1 [.int .i64 r.N, .slice aT2 r.T.length cT2] rfl rfl (World.news_of_block (blk_new_at (by simp))) (by simp [Value.oneCell']) (by decide) (by unfold maxLen; omega) (by omega) (by simp; omega) (wy.heap.size + 1 + 1) (by simp) ?_); go_loud (intro g8 cap8 W8 hr8 hg8 hat8 hlt8; have h8 := HAl.out.appA hg8 (ys4 := Yk ++ [⟨.slice aR r.row.length cR, r.N, .slice aT2 r.T.length cT2, .slice aP r.P.length cP, .slice aK r.K.length cK, .slice aO2 r.old.length cO2, r⟩]) (by rw [List.length_append, List.flatMap_append]; exact hr8); have hq8 := HQ0.out.grown hg8 (fun e => own_blk_ne HAl.out.rA HQ0.out (by decide) e.symm); clear hr8 hat8 hlt8))
          have HA8 := Lib.hid h8
          have HQ8 := Lib.hid hq8
          have hqx : wy.heap.size ≠ w5.heap.size := by omega
          obtain ⟨lx, x0, f0, x1, f1, x2, f2, x3, f3⟩ := fourG h8.kx
          obtain ⟨lq, y0, q0, y1, q1, y2, q2, y3, q3, y4, q4, y5, q5⟩ := sixF hq8
          have hz8 := hg8.size
          clear h8 hq8 hg8 z0 z1 z2 z3 z4 z5
          generalize hqq : wy.heap.size = q at *
          clear hqq
          go_upto_region 22 with (at_builtin; go_loud (refine wpList_append_any W8 rfl (.tmp 84) (.tmp 87) 63 rfl w5.heap.size 111 i3 _ 3 24 Tryz.underlying63 hj3 b30 b31 b32 rfl (by decide) vP' Pk.length (ws3 Pk) rfl HA8.out.rP W1.heap.size (.slice aP r.P.length cP) r.P.length (ws3 r.P) rfl (own_below G.out.1 HA8.out.bel) (ws3_one _) (by unfold maxLen; omega) (by omega) HA8.out.bel.size ?_); go_loud (intro v9 W9 hr9 hg9 hat9; obtain ⟨a9, c9, rfl⟩ := ownsRow_slice hr9; have h9 := HA8.out.appP hg9 (P4 := Pk ++ r.P) (v4 := .slice a9 (Pk.length + r.P.length) c9) (by rw [ws3_app, List.length_append]; exact hr9); have hq9 := (HQ8.out.grown hg9 (fun e => own_blk_ne HA8.out.rP HQ8.out (by decide) e.symm)).far (p := ⟨w5.heap.size, 2, none⟩) hqx (.slice a9 (Pk.length + r.P.length) c9); clear hr9 hat9; obtain ⟨lx', x0', f0', x1', f1', x2', f2', x3', f3'⟩ := fourG h9.1))
          have HA9 := Lib.hid h9.2
          have HQ9 := Lib.hid hq9
          clear x0' f0' x1' f1' x2' f2' x3' f3' lx' lx x0 f0 x1 f1 x2 f2 x3 f3 lq y0 q0 y1 q1 y2 q2 y3 q3 y4 q4 y5 q5 hg9
          generalize W9.setCell _ _ = W9' at *
          obtain ⟨lx, x0, f0, x1, f1, x2, f2, x3, f3⟩ := fourG h9.2.kx
          obtain ⟨lq, y0, q0, y1, q1, y2, q2, y3, q3, y4, q4, y5, q5⟩ := sixF hq9
          clear h9 hq9
          go_upto_region 23 with (at_builtin; go_loud (refine wpList_append_any W9' rfl (.tmp 91) (.tmp 94) 28 rfl w5.heap.size 3 i2 _ 1 8 Tryz.underlying28 hj2 b20 b21 b22 rfl (by decide) vK' Kk.length (intsV Kk) rfl HA9.out.rK W1.heap.size (.slice aK r.K.length cK) r.K.length (intsV r.K) rfl (own_below G.out.2.1 HA9.out.bel) (intsV_one9 _) (by unfold maxLen; omega) (by omega) HA9.out.bel.size ?_); go_loud (intro v10 W10 hr10 hg10 hat10; obtain ⟨a10, c10, rfl⟩ := ownsRow_slice hr10; have h10 := HA9.out.appK hg10 (K4 := Kk ++ r.K) (v4 := .slice a10 (Kk.length + r.K.length) c10) (by rw [intsV_app9, List.length_append]; exact hr10) hat10; have hq10 := (HQ9.out.grown hg10 (fun e => own_blk_ne HA9.out.rK HQ9.out (by decide) e.symm)).far (p := ⟨w5.heap.size, 3, none⟩) hqx (.slice a10 (Kk.length + r.K.length) c10); clear hr10 hat10; obtain ⟨lx', x0', f0', x1', f1', x2', f2', x3', f3'⟩ := fourG h10.1))
          have HA10 := Lib.hid h10.2
          have HQ10 := Lib.hid hq10
          clear x0' f0' x1' f1' x2' f2' x3' f3' lx' lx x0 f0 x1 f1 x2 f2 x3 f3 lq y0 q0 y1 q1 y2 q2 y3 q3 y4 q4 y5 q5 hg10
          generalize W10.setCell _ _ = W10' at *
          obtain ⟨lq, y0, q0, y1, q1, y2, q2, y3, q3, y4, q4, y5, q5⟩ := sixF hq10
          clear h10 hq10
          go_upto_region 24 with (at_builtin; go_loud (refine wpList_append_any W10' rfl (.tmp 97) (.tmp 99) 28 rfl w5.heap.size 3 i2 _ 1 8 Tryz.underlying28 hj2 b20 b21 b22 rfl (by decide) _ Ok.length (intsV Ok) rfl HA10.out.rO W1.heap.size (.slice aO2 r.old.length cO2) r.old.length (intsV r.old) rfl (own_below G.out.2.2 HA10.out.bel) (intsV_one9 _) (by unfold maxLen; omega) (by omega) HA10.out.bel.size ?_); go_loud (intro v11 W11 hr11 hg11 hat11; have h11 := HA10.out.appO hg11 (O4 := Ok ++ r.old) (v4 := v11) (by rw [intsV_app9, List.length_append]; exact hr11) hat11; clear hr11 hat11 hg11))
          have HA11 := Lib.hid h11
          clear h11 lq y0 q0 y1 q1 y2 q2 y3 q3 y4 q4 y5 q5
          go_wp2
          go_roundw
          case measure => simp [intOf]; omega
          case rel => exact ⟨k + 1, by omega, by go_num, _, _, by rw [HtP.out, HtK.out, HtO.out, HyT.out]; exact HA11.out⟩
        · obtain rfl : m = k := by omega
          rw [List.take_of_length_le (by omega), List.take_of_length_le (Nat.le_of_eq HSl.out)] at hA
          have hSd := soups_rd hA HY.out.1 HY.out.2.1
          have HJ := Lib.hid (join_any _ (soupsM S) wy hSd (by have : (soupsM S).length = m := by simp [soupsM, HSl.out]
                                                               omega) HSf.out.1 (by have := HSf.out.2.1; omega) (by have := HSf.out.2.2; omega))
          obtain ⟨PP, hPP⟩ : ∃ PP, S.flatMap (·.P) = PP := ⟨_, rfl⟩
          obtain ⟨KK, hKK⟩ : ∃ KK, S.flatMap (·.K) = KK := ⟨_, rfl⟩
          obtain ⟨OO, hOO⟩ : ∃ OO, S.flatMap (·.old) = OO := ⟨_, rfl⟩
          rw [hPP, hKK, hOO] at hA
          have HPe := Lib.hid (And.intro hPP (And.intro hKK hOO))
          clear hPP hKK hOO
          obtain ⟨aA, cA, rfl⟩ := ownsRow_slice hA.rA
          obtain ⟨aP9, cP9, rfl⟩ := ownsRow_slice hA.rP
          obtain ⟨aK9, cK9, rfl⟩ := ownsRow_slice hA.rK
          obtain ⟨aO9, cO9, rfl⟩ := ownsRow_slice hA.rO
          have HA := Lib.hid hA
          have hlx := hA.kx.lt
          obtain ⟨JN, hJN⟩ : ∃ JN, (joinM (soupsM S)).1 = JN := ⟨_, rfl⟩
          obtain ⟨JT, hJT⟩ : ∃ JT, (joinM (soupsM S)).2 = JT := ⟨_, rfl⟩
          rw [hJN, hJT] at HJ
          have HJe := Lib.hid (And.intro hJN hJT)
          clear hA hSd hJN hJT hyl
          go_upto_region 26 with (go_at_call 77; go_loud (refine HJ.out.mono ?_; rintro e wJ ⟨vTJ, rfl, hTJ, hbJ⟩; obtain ⟨aJ, cJ, rfl⟩ := ownsRow_slice hTJ; have hAJ := HA.out.below hbJ; obtain ⟨lx, x0, f0, x1, f1, x2, f2, x3, f3⟩ := fourG hAJ.kx))
          have HAJ := Lib.hid hAJ
          have HTJ := Lib.hid hTJ
          have HbJ := Lib.hid hbJ
          have hk2 := blk_set2 (.int .i64 JN) (.slice aJ JT.length cJ) hAJ.kx
          have hs2 : w.heap.size + 1 < W1.heap.size := HB2'.out.lt
          have hB2w := (HB2'.out.below (HB5.out.trans (hAJ.bel.mono hz5)) HB2'.out.lt)
          have hB2x := far_set2 (b := w5.heap.size) (.int .i64 JN) (.slice aJ JT.length cJ) hB2w (by omega)
          have HK2 := Lib.hid hk2
          have HB2x := Lib.hid hB2x
          clear lx x0 f0 x1 f1 x2 f2 x3 f3 hAJ hTJ hbJ
          unfold set2 at hk2 hB2x
          obtain ⟨lx, x0, f0, x1, f1, x2, f2, x3, f3⟩ := fourG hk2
          obtain ⟨ly, y0, q0, y1, q1, y2, q2, y3, q3⟩ := fourG hB2x
          clear hk2 hB2x hB2w
          go_wp2
          have hK4 := blk_set4 (.int .i64 JN) (.slice aJ JT.length cJ) (.slice aP9 PP.length cP9) (.slice aK9 KK.length cK9) HB2x.out
          have hwW := HBW.out.size
          have hbAll : Below w.heap.size w wJ := HBW.out.trans ((HB5.out.trans (HAJ.out.bel.mono hz5)).mono hwW)
          have hb2 := below_set2 (b := w5.heap.size) (.int .i64 JN) (.slice aJ JT.length cJ) hbAll (by omega)
          have hb4 := below_set4 (b := w.heap.size + 1) (.int .i64 JN) (.slice aJ JT.length cJ) (.slice aP9 PP.length cP9) (.slice aK9 KK.length cK9) hb2 (by omega)
          have hT4 := own_set4 (.int .i64 JN) (.slice aJ JT.length cJ) (.slice aP9 PP.length cP9) (.slice aK9 KK.length cK9) (own_set2 (.int .i64 JN) (.slice aJ JT.length cJ) HTJ.out HAJ.out.kx (by decide)) HB2x.out (by decide)
          have hP4 := own_set4 (.int .i64 JN) (.slice aJ JT.length cJ) (.slice aP9 PP.length cP9) (.slice aK9 KK.length cK9) (own_set2 (.int .i64 JN) (.slice aJ JT.length cJ) HAJ.out.rP HAJ.out.kx (by decide)) HB2x.out (by decide)
          have hK4r := own_set4 (.int .i64 JN) (.slice aJ JT.length cJ) (.slice aP9 PP.length cP9) (.slice aK9 KK.length cK9) (own_set2 (.int .i64 JN) (.slice aJ JT.length cJ) HAJ.out.rK HAJ.out.kx (by decide)) HB2x.out (by decide)
          have hO4 := own_set4 (.int .i64 JN) (.slice aJ JT.length cJ) (.slice aP9 PP.length cP9) (.slice aK9 KK.length cK9) (own_set2 (.int .i64 JN) (.slice aJ JT.length cJ) HAJ.out.rO HAJ.out.kx (by decide)) HB2x.out (by decide)
          obtain ⟨-, p0, p1, p2, p3⟩ := fourF hK4
          unfold set2 set4 at p0 p1 p2 p3 hb4 hT4 hP4 hK4r hO4
          have hwy := HA.out.bel.size
          refine bodyPost_ret (v := .tuple #[.agg #[.int .i64 JN, .slice aJ JT.length cJ, .slice aP9 PP.length cP9, .slice aK9 KK.length cK9], .slice aO9 OO.length cO9]) (by simp [results, Tryz.results45, go_sem, p0, p1, p2, p3]) rfl ?_
          have eS := HS5.out
          have eJ := HJe.out
          have eP := HPe.out
          refine ⟨out, m, .slice aJ JT.length cJ, .slice aP9 PP.length cP9, .slice aK9 KK.length cK9, .slice aO9 OO.length cO9, Hsh.out, Hm.out.symm, ?_, ?_, ?_, ?_, ?_, hb4⟩
          · rw [eS, eJ.1]
          · rw [eS, eJ.2]
            exact own_lower hT4 (by omega)
          · rw [eS, eP.1]
            exact own_lower hP4 (by omega)
          · rw [eS, eP.2.1]
            exact own_lower hK4r (by omega)
          · rw [eS, eP.2.2]
            exact own_lower hO4 (by omega)
end Go.Proofs.YtghlnknncahkgaaGreat
namespace Go.Proofs.YtghlnknncahkgaaGreat
open Go.RowKit Go.Maps

def frmS (T : List Tr) (out : List Int) (m : Nat) : Int × List Tr := joinM (soupsM (sortM T [] [] out m))
def frmO (T : List Tr) (out : List Int) (m : Nat) : List Int := (sortM T [] [] out m).flatMap (·.old)
/-- The form of a surface's triangles, and the old numbers. -/
def FormIs (T : List Tr) (S : Int × List Tr) (O : List Int) : Prop := ∃ (out : List Int) (m : Nat), Shl T out ∧ (m : Int) = cntL out ∧ S = frmS T out m ∧ O = frmO T out m
theorem FormIs.one {T : List Tr} {S S' : Int × List Tr} {O O' : List Int} (h : FormIs T S O) (h' : FormIs T S' O') : S = S' ∧ O = O' := by
  obtain ⟨out, m, h1, h2, rfl, rfl⟩ := h
  obtain ⟨out', m', h1', h2', rfl, rfl⟩ := h'
  have e := h1.one h1'
  subst e
  have : m = m' := by omega
  subst this
  exact ⟨rfl, rfl⟩
theorem FormIs.len {T : List Tr} {S : Int × List Tr} {O : List Int} (h : FormIs T S O) : S.2.length ≤ T.length := by
  obtain ⟨out, m, h1, h2, rfl, rfl⟩ := h
  exact (soups_bd (P := []) (K := []) h1 (h1.hasP h2)).2
theorem ints_nil (w : World) : IntsRd w (.slice none 0 0) [] := IntsRd.of_row (base := 0) (n := 0) (World.ownsRow_nil _ _ _ _) rfl
theorem tris_nil (w : World) : TrisRd w (.slice none 0 0) [] := ⟨none, 0, rfl, Nat.le_refl _, by decide, fun i x y z h => by simp at h⟩
theorem form_soup (N : Int) (v : Value) (T : List Tr) (w : World) (hS : Surf N T) (h : TrisRd w v T) (hl : T.length ≤ 1000) (h60 : N ≤ 60) :
    Calls Tryz.prog 45 #[.agg #[.int .i64 N, v, .slice none 0 0, .slice none 0 0]] w fun e w' => ∃ S O aT cT aP nP cP aK nK cK aO cO, FormIs T S O ∧ e = .returned (.tuple #[.agg #[.int .i64 S.1, .slice aT S.2.length cT, .slice aP nP cP, .slice aK nK cK], .slice aO O.length cO]) ∧
      w'.ownsRow w.heap.size 72 3 (.slice aT S.2.length cT) S.2.length (ws3 S.2) ∧ w'.ownsRow w.heap.size 3 1 (.slice aO O.length cO) O.length (intsV O) ∧ Below w.heap.size w w' := by
  refine (form_any N T [] [] _ _ _ w hS h (tris_nil w) (ints_nil w) (fun h => absurd rfl h) (fun h => absurd rfl h) h60 hl).mono ?_
  rintro e w2 ⟨out, m, vT', vP', vK', vO', hsh, hm, rfl, hT, hP, hK, hO, hb2⟩
  obtain ⟨aP9, cP9, rfl⟩ := ownsRow_slice hP
  obtain ⟨aK9, cK9, rfl⟩ := ownsRow_slice hK
  obtain ⟨aT9, cT9, rfl⟩ := ownsRow_slice hT
  obtain ⟨aO9, cO9, rfl⟩ := ownsRow_slice hO
  exact ⟨frmS T out m, frmO T out m, _, _, _, _, _, _, _, _, _, _, ⟨out, m, hsh, hm, rfl, rfl⟩, rfl, hT, hO, hb2⟩
set_option maxRecDepth 100000 in
set_option maxHeartbeats 1000000 in
theorem cform_any (N : Int) (v : Value) (T : List Tr) (w : World) (h : TrisRd w v T) (hl : T.length ≤ 1000) (h60 : N ≤ 60) :
    Calls Tryz.prog 18 #[.agg #[.int .i64 N, v]] w fun e w' => ((¬ Surf N T ∧ e = .returned (.tuple #[.agg #[.int .i64 0, .slice none 0 0], .slice none 0 0, .int .i64 11])) ∨
      (Surf N T ∧ ∃ S O vT vO, FormIs T S O ∧ e = .returned (.tuple #[.agg #[.int .i64 S.1, vT], vO, .int .i64 0]) ∧ w'.ownsRow w.heap.size 72 3 vT S.2.length (ws3 S.2) ∧ w'.ownsRow w.heap.size 3 1 vO O.length (intsV O))) ∧ Below w.heap.size w w' := by
  have hb1 := (Blk.new w 24 #[.int .i64 N, v]).alloc (.cells #[.int .i64 0, .slice none 0 0] 24)
  have hb2 : Blk ((w.alloc (.cells #[.int .i64 N, v] 24)).alloc (.cells #[.int .i64 0, .slice none 0 0] 24)) (w.heap.size + 1) 24 #[.int .i64 0, .slice none 0 0] := blk_new_at (by simp)
  have hB0 : Below w.heap.size w ((w.alloc (.cells #[.int .i64 N, v] 24)).alloc (.cells #[.int .i64 0, .slice none 0 0] 24)) := ((Below.refl _ _).alloc (Nat.le_refl _) _).alloc (by simp) _
  have HI := Lib.hid (is_any N v T _ (h.below hB0) (by omega))
  have HR := Lib.hid (fun (W : World) (hW : Below w.heap.size w W) => h.below hW)
  obtain ⟨aT, cT, rfl, -⟩ := h
  obtain ⟨l1, x0, -, x1, -⟩ := hb1.two
  have HB0 := Lib.hid hB0
  have HB1 := Lib.hid hb1
  have HB2 := Lib.hid hb2
  clear hB0 hb1 hb2
  obtain ⟨F, hF⟩ : ∃ F, T.length = F := ⟨_, rfl⟩
  have HF := Lib.hid hF
  rw [hF] at HI x1 HB0 HB1 HB2 l1 x0 HR hl ⊢
  clear hF
  go_enter Tryz.func18, Tryz.ntmps18
  go_upto_if 9 with (go_at_call 19; go_loud (refine HI.out.mono ?_; rintro e w1 ⟨bs, rfl, hbs, hb⟩))
  have hBW := HB0.out.trans (hb.mono HB0.out.size)
  have hb1' := HB1.out.below hb HB1.out.lt
  have hb2' := HB2.out.below hb HB2.out.lt
  have HBs := Lib.hid hbs
  have HBW := Lib.hid hBW
  have HB2' := Lib.hid hb2'
  obtain ⟨l1', x0', -, x1', -⟩ := hb1'.two
  obtain ⟨l2', y0, f0, y1, f1⟩ := hb2'.two
  have hz1 := hBW.size
  clear hb hbs x0 x1 l1 hb1' hBW hb2' HI
  cases bs with
  | false =>
    have hno : ¬ Surf N T := fun h => by have := HBs.out.2 h; cases this
    have HNo := Lib.hid hno
    have hK := (HB2'.out.set_ 0 (.int .i64 0)).set_ 1 (.slice none 0 0)
    have HK := Lib.hid (show Blk _ (w.heap.size + 1) 24 #[.int .i64 0, .slice none 0 0] from by simpa using hK)
    have HBe := Lib.hid ((HBW.out.setCell (p := ⟨w.heap.size + 1, 0, none⟩) (by simp) (.int .i64 0)).setCell (p := ⟨w.heap.size + 1, 1, none⟩) (by simp) (.slice none 0 0))
    clear hno hK HBs
    go_wp2
    obtain ⟨-, p0, -, p1, -⟩ := HK.out.two
    refine bodyPost_ret (v := .tuple #[.agg #[.int .i64 0, .slice none 0 0], .slice none 0 0, .int .i64 11]) (by simp [results, Tryz.results18, go_sem, p0, p1]) rfl ?_
    exact ⟨.inl ⟨HNo.out, rfl⟩, HBe.out⟩
  | true =>
    have hS := HBs.out.1 rfl
    have HS := Lib.hid hS
    have HFm := Lib.hid (form_soup N _ T w1 hS (HR.out w1 HBW.out) (by rw [HF.out]; exact hl) h60)
    clear hS HBs
    go_upto_region 4 with (go_at_call 45; go_loud (refine HFm.out.mono ?_; rintro e w2 ⟨S, O, aT9, cT9, aP9, nP9, cP9, aK9, nK9, cK9, aO9, cO9, hFI, rfl, hT, hO, hb2⟩))
    have hA := (Below.refl w2.heap.size w2).alloc (Nat.le_refl _) (.cells #[.int .i64 S.1, .slice aT9 S.2.length cT9, .slice aP9 nP9 cP9, .slice aK9 nK9 cK9] 65)
    have hk := Blk.new w2 65 #[.int .i64 S.1, .slice aT9 S.2.length cT9, .slice aP9 nP9 cP9, .slice aK9 nK9 cK9]
    obtain ⟨lk, z0, z1, -, -⟩ := fourF hk
    have hs2 : w.heap.size + 1 < w1.heap.size := HB2'.out.lt
    have h2 := (HB2'.out.below hb2 hs2).below hA (Nat.lt_of_lt_of_le hs2 hb2.size)
    obtain ⟨l3, y0, f0, y1, f1⟩ := h2.two
    have hT2 := own_below hT hA
    have hO2 := own_below hO hA
    have hK := (h2.set_ 0 (.int .i64 S.1)).set_ 1 (.slice aT9 S.2.length cT9)
    have HK := Lib.hid (show Blk _ (w.heap.size + 1) 24 #[.int .i64 S.1, .slice aT9 S.2.length cT9] from by simpa using hK)
    have HBe := Lib.hid (((HBW.out.trans ((hb2.trans (hA.mono hb2.size)).mono hz1)).setCell (p := ⟨w.heap.size + 1, 0, none⟩) (by simp) (.int .i64 S.1)).setCell (p := ⟨w.heap.size + 1, 1, none⟩) (by simp) (.slice aT9 S.2.length cT9))
    have HO2 := Lib.hid (And.intro (own_alloc_st (i := 1) (u := .slice aT9 S.2.length cT9) (own_alloc_st (i := 0) (u := .int .i64 S.1) hT2 h2 (by decide)) (h2.set_ 0 (.int .i64 S.1)) (by decide)) (own_alloc_st (i := 1) (u := .slice aT9 S.2.length cT9) (own_alloc_st (i := 0) (u := .int .i64 S.1) hO2 h2 (by decide)) (h2.set_ 0 (.int .i64 S.1)) (by decide)))
    have HFI := Lib.hid hFI
    clear hA hk h2 hT2 hO2 hK hT hO hFI hb2
    go_wp2
    obtain ⟨-, p0, -, p1, -⟩ := HK.out.two
    refine bodyPost_ret (v := .tuple #[.agg #[.int .i64 S.1, .slice aT9 S.2.length cT9], .slice aO9 O.length cO9, .int .i64 0]) (by simp [results, Tryz.results18, go_sem, p0, p1]) rfl ?_
    exact ⟨.inr ⟨HS.out, S, O, _, _, HFI.out, rfl, own_lower HO2.out.1 hz1, own_lower HO2.out.2 hz1⟩, HBe.out⟩
theorem cform_two (N : Int) (v : Value) (T : List Tr) (w : World) (h : TrisRd w v T) (hl : T.length ≤ 1000) (h60 : N ≤ 60) :
    Calls Tryz.prog 18 #[.agg #[.int .i64 N, v]] w fun e w' => ∃ S O aT cT aO cO er, e = .returned (.tuple #[.agg #[.int .i64 S.1, .slice aT S.2.length cT], .slice aO O.length cO, .int .i64 er]) ∧ TrisRd w' (.slice aT S.2.length cT) S.2 ∧ IntsRd w' (.slice aO O.length cO) O ∧ S.2.length ≤ 1000 ∧
      ((er = 0 ∧ Surf N T ∧ FormIs T S O) ∨ (er = 11 ∧ ¬ Surf N T ∧ S = (0, []) ∧ O = [])) ∧ Below w.heap.size w w' := by
  refine (cform_any N v T w h hl h60).mono ?_
  rintro e w' ⟨⟨hno, rfl⟩ | ⟨hS, S, O, vT, vO, hF, rfl, hT, hO⟩, hb⟩
  · exact ⟨(0, []), [], none, 0, none, 0, 11, rfl, tris_nil _, ints_nil _, by simp, .inr ⟨rfl, hno, rfl, rfl⟩, hb⟩
  · obtain ⟨aT, cT, rfl⟩ := ownsRow_slice hT
    obtain ⟨aO, cO, rfl⟩ := ownsRow_slice hO
    exact ⟨S, O, aT, cT, aO, cO, 0, rfl, TrisRd.of_row hT, IntsRd.of_row hO rfl, Nat.le_trans hF.len hl, .inl ⟨rfl, hS, hF⟩, hb⟩
/-- Are two surfaces' forms the same? -/
def FormEq (N1 N2 : Int) (T1 T2 : List Tr) : Prop := Surf N1 T1 ∧ Surf N2 T2 ∧ ∃ S O1 O2, FormIs T1 S O1 ∧ FormIs T2 S O2
set_option maxRecDepth 100000 in
set_option maxHeartbeats 2000000 in
theorem equal_any (N1 N2 : Int) (v1 v2 : Value) (T1 T2 : List Tr) (w : World) (h1 : TrisRd w v1 T1) (h2 : TrisRd w v2 T2) (l1 : T1.length ≤ 1000) (l2 : T2.length ≤ 1000) (n1 : N1 ≤ 60) (n2 : N2 ≤ 60) :
    Calls Tryz.prog 34 #[.agg #[.int .i64 N1, v1], .agg #[.int .i64 N2, v2]] w fun e w' => ∃ b : Bool, e = .returned (.bool b) ∧ (b = true ↔ FormEq N1 N2 T1 T2) ∧ Below w.heap.size w w' := by
  have hb1 := (Blk.new w 24 #[.int .i64 N1, v1]).alloc (.cells #[.int .i64 N2, v2] 24)
  have hb2 : Blk ((w.alloc (.cells #[.int .i64 N1, v1] 24)).alloc (.cells #[.int .i64 N2, v2] 24)) (w.heap.size + 1) 24 #[.int .i64 N2, v2] := blk_new_at (by simp)
  have hB0 : Below w.heap.size w ((w.alloc (.cells #[.int .i64 N1, v1] 24)).alloc (.cells #[.int .i64 N2, v2] 24)) := ((Below.refl _ _).alloc (Nat.le_refl _) _).alloc (by simp) _
  have HF1 := Lib.hid (cform_two N1 v1 T1 _ (h1.below hB0) l1 n1)
  have HF2 := Lib.hid (fun (W : World) (hW : Below w.heap.size w W) => cform_two N2 v2 T2 W (h2.below hW) l2 n2)
  obtain ⟨a1, c1, rfl, -⟩ := h1
  obtain ⟨a2, c2, rfl, -⟩ := h2
  obtain ⟨p0, x0, -, x1, -⟩ := hb1.two
  obtain ⟨F1, hF1⟩ : ∃ F, T1.length = F := ⟨_, rfl⟩
  obtain ⟨F2, hF2⟩ : ∃ F, T2.length = F := ⟨_, rfl⟩
  rw [hF1] at HF1 x0 x1 hB0 hb2 p0 l1 ⊢
  rw [hF2] at HF1 HF2 x0 x1 hB0 hb2 p0 l2 ⊢
  have HB0 := Lib.hid hB0
  have HB2 := Lib.hid hb2
  have HL := Lib.hid (And.intro hF1 hF2)
  clear hB0 hb1 hb2 hF1 hF2
  go_enter Tryz.func34, Tryz.ntmps34
  go_upto_region 2 with (go_at_call 18; go_loud (refine HF1.out.mono ?_; rintro e w1 ⟨S1, O1, aT1, cT1, aO1, cO1, er1, rfl, hr1, -, hs1, hc1, hb1⟩))
  have hA1 := (Below.refl w1.heap.size w1).alloc (Nat.le_refl _) (.cells #[.int .i64 S1.1, .slice aT1 S1.2.length cT1] 24)
  have hBa := HB0.out.trans ((hb1.trans (hA1.mono hb1.size)).mono HB0.out.size)
  have hk2 := (HB2.out.below hb1 HB2.out.lt).alloc (.cells #[.int .i64 S1.1, .slice aT1 S1.2.length cT1] 24)
  have hk5 := Blk.new w1 24 #[.int .i64 S1.1, .slice aT1 S1.2.length cT1]
  have hr1a := hr1.below hA1
  generalize hq5 : w1.heap.size = q5 at *
  have HF2' := Lib.hid (HF2.out _ hBa)
  obtain ⟨l2', y0, -, y1, -⟩ := hk2.two
  have HBa := Lib.hid hBa
  have Hk5 := Lib.hid hk5
  have Hr1 := Lib.hid hr1a
  have hz1 := hBa.size
  clear hr1 hb1 hA1 hBa hk2 hk5 hr1a x0 x1 p0
  go_upto_region 3 with (go_at_call 18; go_loud (refine HF2'.out.mono ?_; rintro e w2 ⟨S2, O2, aT2, cT2, aO2, cO2, er2, rfl, hr2, -, hs2, hc2, hb2⟩))
  have hA2 := (Below.refl w2.heap.size w2).alloc (Nat.le_refl _) (.cells #[.int .i64 S2.1, .slice aT2 S2.2.length cT2] 24)
  have hk5 := (Hk5.out.below hb2 Hk5.out.lt).alloc (.cells #[.int .i64 S2.1, .slice aT2 S2.2.length cT2] 24)
  have hk8 := Blk.new w2 24 #[.int .i64 S2.1, .slice aT2 S2.2.length cT2]
  have hr1b := (Hr1.out.below hb2).below hA2
  have hr2b := hr2.below hA2
  have HS := Lib.hid (soupSame_any S1.1 S2.1 _ _ S1.2 S2.2 _ hr1b hr2b (by omega) (by omega))
  have HBb := Lib.hid (HBa.out.trans ((hb2.trans (hA2.mono hb2.size)).mono hz1))
  obtain ⟨l5, z0, -, z1, -⟩ := hk5.two
  obtain ⟨l8, u0, -, u1, -⟩ := hk8.two
  clear hA2 hk5 hk8 hr1b hr2b hb2 hr2 y0 y1 l2'
  generalize w2.alloc (.cells #[.int .i64 S2.1, .slice aT2 S2.2.length cT2] 24) = w3 at *
  generalize w2.heap.size = q8 at *
  rcases hc1 with ⟨rfl, hS1, hI1⟩ | ⟨rfl, hS1, -⟩
  · rcases hc2 with ⟨rfl, hS2, hI2⟩ | ⟨rfl, hS2, -⟩
    · have HQ := Lib.hid (show decide (S1.1 = S2.1 ∧ S1.2 = S2.2) = true ↔ FormEq N1 N2 T1 T2 from by
        rw [decide_eq_true_iff]
        constructor
        · intro h
          refine ⟨hS1, hS2, S1, O1, O2, hI1, ?_⟩
          rw [Prod.ext h.1 h.2]
          exact hI2
        · rintro ⟨-, -, S, O, O', h, h'⟩
          rw [(hI1.one h).1, (hI2.one h').1]
          exact ⟨rfl, rfl⟩)
      clear hS1 hS2 hI1 hI2
      go_wp2_with (go_at_call 66; refine HS.out.mono ?_; rintro e w4 ⟨rfl, hb4⟩)
      go_ret
      exact ⟨_, by simp, HQ.out, HBb.out.trans (hb4.mono HBb.out.size)⟩
    · have HQ := Lib.hid (show false = true ↔ FormEq N1 N2 T1 T2 from ⟨fun h => (by cases h), fun h => absurd h.2.1 hS2⟩)
      clear hS1 hS2 hI1
      go_wp2
      go_ret
      exact ⟨_, by simp, HQ.out, HBb.out⟩
  · have HQ := Lib.hid (show false = true ↔ FormEq N1 N2 T1 T2 from ⟨fun h => (by cases h), fun h => absurd h.1 hS1⟩)
    clear hS1 hc2
    go_wp2
    go_ret
    exact ⟨_, by simp, HQ.out, HBb.out⟩
end Go.Proofs.YtghlnknncahkgaaGreat
namespace Go.Proofs.YtghlnknncahkgaaGreat
open Go.RowKit

/-- Of each triangle the corner at which it was come to; of the first, and of those not come to, none. -/
def linkL (F : Nat) (L : List Nat) : List Int := (List.range F).map fun t => match (L.drop 1).find? (fun d => decide (d / 3 = t)) with
  | some d => (d : Int)
  | none => -1
def thereL (F : Nat) (L : List Nat) : List Bool := (List.range F).map fun t => decide (t ∈ trisOf L)
theorem linkL_len (F : Nat) (L : List Nat) : (linkL F L).length = F := by simp [linkL]
theorem thereL_len (F : Nat) (L : List Nat) : (thereL F L).length = F := by simp [thereL]
theorem linkL_one (F c : Nat) : linkL F [c] = List.replicate F (-1) := by
  apply List.ext_getElem?
  intro j
  simp [linkL, List.getElem?_map, List.getElem?_replicate]
  split <;> simp_all
theorem thereL_at {F : Nat} {L : List Nat} {t : Nat} (ht : t < F) : (thereL F L)[t]? = some (decide (t ∈ trisOf L)) := by
  simp [thereL, ht]
theorem thereL_add {F : Nat} {L : List Nat} {o : Nat} : thereL F (L ++ [o]) = (thereL F L).set (o / 3) true := by
  apply List.ext_getElem?
  intro j
  rw [List.getElem?_set, thereL_len]
  by_cases hj : j < F
  · rw [thereL_at hj]
    by_cases e : o / 3 = j
    · rw [if_pos e, if_pos (by omega)]
      simp [trisOf, e]
    · rw [if_neg e, thereL_at hj]
      congr 1
      apply decide_eq_decide.2
      simp only [trisOf, List.map_append, List.mem_append, List.map_cons, List.map_nil, List.mem_singleton]
      exact ⟨fun h => h.elim id (fun h => absurd h.symm e), .inl⟩
  · have h1 : ∀ L', (thereL F L')[j]? = none := fun L' => List.getElem?_eq_none (by rw [thereL_len]; omega)
    rw [h1, h1]
    split
    · rw [if_neg (by omega)]
    · rfl
theorem linkL_get {F : Nat} {L : List Nat} {t : Nat} (ht : t < F) : (linkL F L)[t]? = some (match (L.drop 1).find? (fun d => decide (d / 3 = t)) with
  | some d => (d : Int)
  | none => -1) := by
  simp [linkL, ht]
theorem find_not {L : List Nat} {t : Nat} (h : t ∉ trisOf L) : L.find? (fun d => decide (d / 3 = t)) = none := by
  rw [List.find?_eq_none]
  intro d hd
  simp only [decide_eq_true_eq]
  intro e
  exact h (List.mem_map.2 ⟨d, hd, e⟩)
theorem linkL_add {F : Nat} {L : List Nat} {o : Nat} (h0 : L ≠ []) (hm : o / 3 ∉ trisOf L) : linkL F (L ++ [o]) = (linkL F L).set (o / 3) (o : Int) := by
  obtain ⟨a, r, rfl⟩ : ∃ a r, L = a :: r := by
    cases L with
    | nil => exact absurd rfl h0
    | cons a r => exact ⟨a, r, rfl⟩
  have hr : o / 3 ∉ trisOf r := fun h => hm (by simp only [trisOf, List.map_cons, List.mem_cons] at h ⊢; exact .inr h)
  apply List.ext_getElem?
  intro j
  rw [List.getElem?_set, linkL_len]
  by_cases hj : j < F
  · rw [linkL_get hj]
    simp only [List.cons_append, List.drop_succ_cons, List.drop_zero, List.find?_append]
    by_cases e : o / 3 = j
    · rw [if_pos e, if_pos (by omega), ← e, find_not hr]
      simp
    · rw [if_neg e, linkL_get hj]
      simp only [List.drop_succ_cons, List.drop_zero]
      cases hf : r.find? (fun d => decide (d / 3 = j)) with
      | none => simp [e]
      | some d => simp
  · have h1 : ∀ L', (linkL F L')[j]? = none := fun L' => List.getElem?_eq_none (by rw [linkL_len]; omega)
    rw [h1, h1]
    split
    · rw [if_neg (by omega)]
    · rfl
theorem linkL_at {F : Nat} {L : List Nat} {i d : Nat} (hn : (trisOf L).Nodup) (hi : L[i]? = some d) (hF : d / 3 < F) : (linkL F L)[d / 3]? = some (if i = 0 then -1 else (d : Int)) := by
  rw [linkL_get hF]
  cases L with
  | nil => simp at hi
  | cons a r =>
    simp only [List.drop_succ_cons, List.drop_zero]
    unfold trisOf at hn
    rw [List.map_cons, List.nodup_cons] at hn
    cases i with
    | zero =>
      have e : a = d := by simpa using hi
      subst e
      rw [find_not hn.1]
      rfl
    | succ i =>
      rw [List.getElem?_cons_succ] at hi
      have hm := List.mem_of_getElem? hi
      have : r.find? (fun x => decide (x / 3 = d / 3)) = some d := by
        have hn2 := hn.2
        clear hn
        induction r generalizing i with
        | nil => cases hm
        | cons b s ih =>
          rw [List.map_cons, List.nodup_cons] at hn2
          rw [List.find?_cons]
          rcases List.mem_cons.1 hm with rfl | hm2
          · simp
          · have hne : b / 3 ≠ d / 3 := fun e => hn2.1 (List.mem_map.2 ⟨d, hm2, e.symm⟩)
            simp only [hne, decide_false]
            obtain ⟨j, hj, hj2⟩ := List.getElem_of_mem hm2
            exact ih j (by rw [List.getElem?_eq_getElem hj, hj2]) hm2 hn2.2
      rw [this]
      simp
theorem trisOf_snoc (L : List Nat) (o : Nat) : trisOf (L ++ [o]) = trisOf L ++ [o / 3] := by simp [trisOf]
end Go.Proofs.YtghlnknncahkgaaGreat
namespace Go.Proofs.YtghlnknncahkgaaGreat
open Go.RowKit Go.Maps

set_option maxRecDepth 100000 in
theorem next10_any (n : Nat) (w : World) (hn : n ≤ 1000000) : Calls Tryz.prog 42 #[.int .i64 (n : Int)] w fun e w' => e = .returned (.int .i64 ((Jor.nx n : Nat) : Int)) ∧ w' = w := by
  have hb0 : (0 : Int) ≤ (n : Int) := by omega
  have hb1 : (n : Int) ≤ 1000000 := by omega
  by_cases h : n % 3 = 2
  · have e2 : (n : Int) % 3 = 2 := by omega
    have e3 : ((Jor.nx n : Nat) : Int) = (n : Int) - 2 := by unfold Jor.nx; omega
    rw [e3]
    have h2 : (2 : Int) ≤ (n : Int) := by omega
    clear h e3
    go_enter Tryz.func42, Tryz.ntmps42
    go_wp2
    go_ret
    exact ⟨rfl, rfl⟩
  · have e2 : ((n : Int) % 3 == 2) = false := by simp; omega
    have e3 : ((Jor.nx n : Nat) : Int) = (n : Int) + 1 := by unfold Jor.nx; omega
    rw [e3]
    clear h e3
    go_enter Tryz.func42, Tryz.ntmps42
    go_wp2
    go_ret
    exact ⟨rfl, rfl⟩
set_option maxRecDepth 100000 in
/-- The corner behind none. -/
theorem next10_none (w : World) : Calls Tryz.prog 42 #[.int .i64 (-1)] w fun e w' => e = .returned (.int .i64 0) ∧ w' = w := by
  go_enter Tryz.func42, Tryz.ntmps42
  go_wp2
  go_ret
  exact ⟨rfl, rfl⟩
set_option maxRecDepth 100000 in
theorem prev10_any (n : Nat) (w : World) (hn : n ≤ 1000000) : Calls Tryz.prog 43 #[.int .i64 (n : Int)] w fun e w' => e = .returned (.int .i64 ((Jor.pv n : Nat) : Int)) ∧ w' = w := by
  have hb0 : (0 : Int) ≤ (n : Int) := by omega
  have hb1 : (n : Int) ≤ 1000000 := by omega
  by_cases h : n % 3 = 0
  · have e2 : (n : Int) % 3 = 0 := by omega
    have e3 : ((Jor.pv n : Nat) : Int) = (n : Int) + 2 := by unfold Jor.pv; omega
    rw [e3]
    clear h e3
    go_enter Tryz.func43, Tryz.ntmps43
    go_wp2
    go_ret
    exact ⟨rfl, rfl⟩
  · have e2 : ((n : Int) % 3 == 0) = false := by simp; omega
    have e3 : ((Jor.pv n : Nat) : Int) = (n : Int) - 1 := by unfold Jor.pv; omega
    rw [e3]
    have h2 : (1 : Int) ≤ (n : Int) := by omega
    clear h e3
    go_enter Tryz.func43, Tryz.ntmps43
    go_wp2
    go_ret
    exact ⟨rfl, rfl⟩
set_option maxRecDepth 100000 in
theorem is10_any (N c : Int) (v : Value) (T : List Tr) (w : World) (h : TrisRd w v T) (hl : T.length ≤ 100000) : Calls Tryz.prog 40 #[.agg #[.int .i64 N, v], .int .i64 c] w fun e w' => e = .returned (.bool (hasC T c)) ∧ Below w.heap.size w w' := by
  have b1 := Blk.new w 24 #[.int .i64 N, v]
  have hB0 : Below w.heap.size w (w.alloc (.cells #[.int .i64 N, v] 24)) := (Below.refl _ _).alloc (Nat.le_refl _) _
  obtain ⟨a, cT, rfl, hc1, hc2, -⟩ := h
  obtain ⟨l0, x0, -, x1, -⟩ := b1.two
  obtain ⟨n, hn⟩ : ∃ n, T.length = n := ⟨_, rfl⟩
  unfold hasC
  rw [hn] at x1 hl hB0 l0 ⊢
  have HB := Lib.hid hB0
  clear hn b1 hB0
  by_cases c0 : 0 ≤ c
  · by_cases c1 : c < 3 * n
    · have hp : decide (0 ≤ c ∧ c < 3 * (n : Int)) = true := by simp [c0, c1]
      rw [hp]
      clear hp
      go_enter Tryz.func40, Tryz.ntmps40
      go_wp2
      go_ret
      exact ⟨by simp, HB.out⟩
    · have hp : decide (0 ≤ c ∧ c < 3 * (n : Int)) = false := by simp [c0]; omega
      have hd : decide (c < 3 * (n : Int)) = false := by simpa using c1
      rw [hp]
      clear hp c1
      go_enter Tryz.func40, Tryz.ntmps40
      go_wp2
      go_ret
      exact ⟨by simp, HB.out⟩
  · have hp : decide (0 ≤ c ∧ c < 3 * (n : Int)) = false := by simp; omega
    have hd : decide (0 ≤ c) = false := by simpa using c0
    rw [hp]
    clear hp c0
    go_enter Tryz.func40, Tryz.ntmps40
    go_wp2
    go_ret
    exact ⟨by simp, HB.out⟩
set_option maxRecDepth 100000 in
theorem vertex10_any (N : Int) (n : Nat) (v : Value) (T : List Tr) (w : World) (h : TrisRd w v T) (hn : n < 3 * T.length) (hl : T.length ≤ 100000) : Calls Tryz.prog 44 #[.agg #[.int .i64 N, v], .int .i64 (n : Int)] w fun e w' => e = .returned (.int .i64 (vertN T n)) ∧ Below w.heap.size w w' := by
  have b1 := Blk.new w 24 #[.int .i64 N, v]
  have hB0 : Below w.heap.size w (w.alloc (.cells #[.int .i64 N, v] 24)) := (Below.refl _ _).alloc (Nat.le_refl _) _
  obtain ⟨a, cT, rfl, hc1, hc2, hr⟩ := h.below hB0
  obtain ⟨l0, x0, -, x1, -⟩ := b1.two
  have hk : n / 3 < T.length := by omega
  obtain ⟨t, ht⟩ : ∃ t, T[n / 3]? = some t := ⟨T[n / 3], List.getElem?_eq_getElem _⟩
  obtain ⟨x, y, z⟩ := t
  obtain ⟨b, o, rfl, hbl, s0, s1, s2⟩ := hr _ x y z ht
  have hv : vertN T n = if n % 3 = 0 then x else if n % 3 = 1 then y else z := by simp [vertN, triAt, ht]
  obtain ⟨L, hL⟩ : ∃ L, T.length = L := ⟨_, rfl⟩
  obtain ⟨k, hkk⟩ : ∃ k, n / 3 = k := ⟨_, rfl⟩
  rw [hL] at x1 hk x0 s0 s1 s2 hB0 hbl l0
  have HB := Lib.hid hB0
  rw [hkk] at hk s0 s1 s2
  rw [hv]
  rw [hL]
  have e1 : (n : Int) / 3 = (k : Int) := by omega
  have hb0 : (0 : Int) ≤ (n : Int) := by omega
  have hb1 : (n : Int) ≤ 1000000 := by omega
  have hk3 : (k : Int) < (L : Int) := by omega
  have hi : n % 3 = 0 ∨ n % 3 = 1 ∨ n % 3 = 2 := by omega
  clear hv hr ht hL h b1 hB0
  rcases hi with hi | hi | hi
  · have e2 : (n : Int) % 3 = 0 := by omega
    rw [hi]
    clear hkk hi hn
    go_enter Tryz.func44, Tryz.ntmps44
    go_wp2
    go_ret
    exact ⟨by simp, HB.out⟩
  · have e2 : (n : Int) % 3 = 1 := by omega
    rw [hi]
    clear hkk hi hn
    go_enter Tryz.func44, Tryz.ntmps44
    go_wp2
    go_ret
    exact ⟨by simp, HB.out⟩
  · have e2 : (n : Int) % 3 = 2 := by omega
    rw [hi]
    clear hkk hi hn
    go_enter Tryz.func44, Tryz.ntmps44
    go_wp2
    go_ret
    exact ⟨by simp, HB.out⟩
end Go.Proofs.YtghlnknncahkgaaGreat
namespace Go.Proofs.YtghlnknncahkgaaGreat
open Go.RowKit Go.Maps

theorem intsV_set9 (xs : List Int) (i : Nat) (v : Int) : (intsV xs).set i (.int .i64 v) = intsV (xs.set i v) := by unfold intsV; rw [List.map_set]
theorem bools_set9 (xs : List Bool) (i : Nat) (v : Bool) : (bools xs).set i (.bool v) = bools (xs.set i v) := by unfold bools; rw [List.map_set]
structure DuSt (w W : World) (F : Nat) (L L' : List Nat) (vL vH vO : Value) : Prop where
  rL : W.ownsRow w.heap.size 3 1 vL F (intsV (linkL F L))
  rH : W.ownsRow w.heap.size 4 1 vH F (bools (thereL F L))
  rO : W.ownsRow w.heap.size 3 1 vO L'.length (intsV (nats (trisOf L')))
  ne : ∀ j, vL.ownBlock = some j → vO.ownBlock ≠ some j
  bel : Below w.heap.size w W
section
variable {w W W' w4 : World} {F : Nat} {L L' : List Nat} {vL vH vO v4 : Value}
theorem DuSt.below (h : DuSt w W F L L' vL vH vO) (hb : Below W.heap.size W W') : DuSt w W' F L L' vL vH vO :=
  ⟨own_below h.rL hb, own_below h.rH hb, own_below h.rO hb, h.ne, h.bel.trans (hb.mono h.bel.size)⟩
theorem DuSt.alloc (h : DuSt w W F L L' vL vH vO) (o : Obj) : DuSt w (W.alloc o) F L L' vL vH vO := h.below ((Below.refl _ _).alloc (Nat.le_refl _) _)
/-- A triangle is marked, and linked. -/
theorem DuSt.mark {gL gH cL cH o : Nat} (h : DuSt w W F L L' (.slice (some ⟨gL, 0, none⟩) F cL) (.slice (some ⟨gH, 0, none⟩) F cH) vO) (h0 : L ≠ []) (hm : o / 3 ∉ trisOf L) :
    DuSt w ((W.setCell ⟨gH, o / 3, none⟩ (.bool true)).setCell ⟨gL, o / 3, none⟩ (.int .i64 (o : Int))) F (L ++ [o]) L' (.slice (some ⟨gL, 0, none⟩) F cL) (.slice (some ⟨gH, 0, none⟩) F cH) vO := by
  have a := h.rH.stored (o / 3) (.bool true)
  have rL1 := h.rL.kept a.2 (own_own_ne h.rL h.rH (by decide))
  have rO1 := h.rO.kept a.2 (own_own_ne h.rO h.rH (by decide))
  have b := rL1.stored (o / 3) (.int .i64 (o : Int))
  refine ⟨?_, ?_, ?_, h.ne, ?_⟩
  · have := b.1
    rw [intsV_set9, ← linkL_add h0 hm] at this
    exact this
  · have := a.1
    rw [bools_set9, ← thereL_add] at this
    exact this.kept b.2 (own_own_ne this rL1 (by decide))
  · refine rO1.kept b.2 ?_
    rcases hO : vO.ownBlock with _ | j
    · exact .inl rfl
    · exact .inr (fun e => h.ne gL rfl (hO.trans e))
  · exact (h.bel.grown a.2 h.bel.size (fun j e => by cases e; exact (h.rH.lt gH rfl).1)).grown b.2 (Nat.le_trans h.bel.size a.2.size) (fun j e => by cases e; exact (h.rL.lt gL rfl).1)
theorem DuSt.appO (h : DuSt w W F L L' vL vH vO) (hg : W.grownBy w4 vO.ownBlock) {o g4 k4 c4 : Nat} (hv : v4 = .slice (some ⟨g4, 0, none⟩) k4 c4) (hr : w4.ownsRow w.heap.size 3 1 v4 (L' ++ [o]).length (intsV (nats (trisOf (L' ++ [o]))))) (hat : vO.ownBlock = some g4 ∨ W.heap.size ≤ g4) : DuSt w w4 F L (L' ++ [o]) vL vH v4 := by
  refine ⟨h.rL.kept hg ?_, h.rH.kept hg (own_own_ne h.rH h.rO (by decide)), hr, ?_, h.bel.grown hg h.bel.size (fun j e => (h.rO.lt j e).1)⟩
  · rcases hL : vL.ownBlock with _ | j
    · exact .inl rfl
    · exact .inr (fun e => h.ne j hL e.symm)
  · intro j ej ek
    subst hv
    have : g4 = j := by simpa [Value.ownBlock] using ek
    subst this
    rcases hat with e | hge
    · exact h.ne _ ej e
    · have := (h.rL.lt _ ej).2
      omega
end
/-- Over some corners, one behind the other. -/
def ovrs (T : List Tr) (L : List Nat) (l : List Nat) : List Nat := l.foldl (fun L (d : Nat) => ovr T L (d : Int)) L
theorem ovrs_take {T : List Tr} {L l : List Nat} {k d : Nat} (h : l[k]? = some d) : ovrs T L (l.take (k + 1)) = ovr T (ovrs T L (l.take k)) (d : Int) := by
  obtain ⟨hk, he⟩ := List.getElem?_eq_some_iff.1 h
  rw [List.take_succ_eq_append_getElem hk, he]
  simp [ovrs]
theorem LOk.ovrs {T : List Tr} {L : List Nat} (h : LOk T L) (l : List Nat) : LOk T (ovrs T L l) := by
  unfold Proofs.YtghlnknncahkgaaGreat.ovrs
  induction l generalizing L with
  | nil => exact h
  | cons a r ih => exact ih (h.ovr _)
theorem ovr_ne {T : List Tr} {L : List Nat} (h : L ≠ []) (c : Int) : ovr T L c ≠ [] := by
  unfold ovr
  split
  · simp
  · exact h
theorem ovrs_ne {T : List Tr} {L : List Nat} (h : L ≠ []) (l : List Nat) : ovrs T L l ≠ [] := by
  unfold ovrs
  induction l generalizing L with
  | nil => exact h
  | cons a r ih => exact ih (ovr_ne h _)
theorem ovr_pre (T : List Tr) (L : List Nat) (c : Int) : ∃ m, ovr T L c = L ++ m := by
  unfold ovr
  split
  · exact ⟨_, rfl⟩
  · exact ⟨[], by simp⟩
theorem ovrs_pre (T : List Tr) : ∀ (l L : List Nat), ∃ m, ovrs T L l = L ++ m
  | [], L => ⟨[], by simp [ovrs]⟩
  | a :: r, L => by
    obtain ⟨m, hm⟩ := ovr_pre T L (a : Int)
    obtain ⟨m', hm'⟩ := ovrs_pre T r (ovr T L (a : Int))
    refine ⟨m ++ m', ?_⟩
    show ovrs T (ovr T L (a : Int)) r = _
    rw [hm', hm]
    simp
/-- i of the corners come to are gone over. -/
structure DuRel (T : List Tr) (c i : Nat) (L : List Nat) : Prop where
  ok : LOk T L
  ne : L ≠ []
  le : i ≤ L.length
  beg : i = 0 → L = [c]
  go : 0 < i → rtF T (T.length + 1 - i) i L = rtL T c
theorem DuRel.first {T : List Tr} {c : Nat} (hc : c < 3 * T.length) : DuRel T c 0 [c] := ⟨LOk.one hc, by simp, by simp, fun _ => rfl, fun h => absurd h (by omega)⟩
theorem DuRel.fin {T : List Tr} {c i : Nat} {L : List Nat} (h : DuRel T c i L) (hi : L.length ≤ i) : L = rtL T c := by
  have h1 : 0 < L.length := List.length_pos_iff.2 h.ne
  have := h.go (by omega)
  rw [rtF_end hi] at this
  exact this
/-- The sides of the first triangle; of another one. -/
def sidesD (c i d : Nat) : List Nat := if i = 0 then [c, Jor.nx c, Jor.pv c] else [Jor.nx d, Jor.pv d]
theorem DuRel.step {T : List Tr} {c i d : Nat} {L : List Nat} (h : DuRel T c i L) (hd : L[i]? = some d) : DuRel T c (i + 1) (ovrs T L (sidesD c i d)) := by
  have hil : i < L.length := (List.getElem?_eq_some_iff.1 hd).1
  obtain ⟨m, hm⟩ := ovrs_pre T (sidesD c i d) L
  refine ⟨h.ok.ovrs _, ovrs_ne h.ne _, by rw [hm, List.length_append]; omega, fun e => absurd e (by omega), fun _ => ?_⟩
  by_cases h0 : i = 0
  · subst h0
    have hL := h.beg rfl
    subst hL
    have e : d = c := by simpa using hd.symm
    subst e
    have h2 : (ovr T [d] (d : Int))[0]? = some d := by
      obtain ⟨m, hm⟩ := ovr_pre T [d] (d : Int)
      rw [hm]
      rfl
    show rtF T (T.length + 1 - 1) 1 _ = rtF T (T.length + 1) 0 (ovr T [d] (d : Int))
    rw [rtF_at h2]
    rfl
  · have h1 := h.go (by omega)
    have hlen := h.ok.len
    rw [show T.length + 1 - i = (T.length + 1 - (i + 1)) + 1 from by omega, rtF_at hd] at h1
    rw [← h1]
    unfold sidesD
    rw [if_neg h0]
    rfl
end Go.Proofs.YtghlnknncahkgaaGreat
namespace Go.Proofs.YtghlnknncahkgaaGreat
open Go.RowKit Go.Maps

theorem facI_at {T : List Tr} {k : Nat} {e : Int × Int} (hk : k < 3 * T.length) (h : facFrom T 0 e = facFrom T k e) (he : edgeN T k = e) : facI T e = (k : Int) := by
  unfold facI
  rw [h, facFrom_step hk, if_pos he]
theorem facI_no {T : List Tr} {e : Int × Int} (h : facFrom T 0 e = facFrom T (3 * T.length) e) : facI T e = -1 := by
  unfold facI
  rw [h]
  simp [facFrom]
theorem facFrom_on {T : List Tr} {k : Nat} {e : Int × Int} (hk : k < 3 * T.length) (h : facFrom T 0 e = facFrom T k e) (he : edgeN T k ≠ e) : facFrom T 0 e = facFrom T (k + 1) e := by
  rw [h, facFrom_step hk, if_neg he]
end Go.Proofs.YtghlnknncahkgaaGreat
namespace Go.Proofs.YtghlnknncahkgaaGreat
open Go.RowKit Go.Maps

set_option maxRecDepth 100000 in
set_option maxHeartbeats 40000000 in
theorem edge10_any (N : Int) (n : Nat) (v : Value) (T : List Tr) (w : World) (h : TrisRd w v T) (hn : n < 3 * T.length) (hl : T.length ≤ 100000) :
    Calls Tryz.prog 90 #[.agg #[.int .i64 N, v], .int .i64 (n : Int)] w fun e w' => e = .returned (pairV (edgeN T n)) ∧ Below w.heap.size w w' := by
  have hb1 := (Blk.new w 24 #[.int .i64 N, v]).alloc (.cells #[.int .i64 0, .int .i64 0] 108)
  have hb2 : Blk ((w.alloc (.cells #[.int .i64 N, v] 24)).alloc (.cells #[.int .i64 0, .int .i64 0] 108)) (w.heap.size + 1) 108 #[.int .i64 0, .int .i64 0] := blk_new_at (by simp)
  have hB0 : Below w.heap.size w ((w.alloc (.cells #[.int .i64 N, v] 24)).alloc (.cells #[.int .i64 0, .int .i64 0] 108)) := ((Below.refl _ _).alloc (Nat.le_refl _) _).alloc (by simp) _
  obtain ⟨x, hx⟩ : ∃ x, vertN T (Jor.nx n) = x := ⟨_, rfl⟩
  obtain ⟨y, hy⟩ : ∃ y, vertN T (Jor.pv n) = y := ⟨_, rfl⟩
  have HN := Lib.hid (fun (W : World) => next10_any n W (by omega))
  have HP := Lib.hid (fun (W : World) => prev10_any n W (by omega))
  have HX := Lib.hid (fun (W : World) (hW : Below w.heap.size w W) => vertex10_any N (Jor.nx n) v T W (h.below hW) (Jor.nx_lt hn) hl)
  have HY := Lib.hid (fun (W : World) (hW : Below w.heap.size w W) => vertex10_any N (Jor.pv n) v T W (h.below hW) (Jor.pv_lt hn) hl)
  rw [hx] at HX
  rw [hy] at HY
  have e0 : pairV (edgeN T n) = .agg #[.int .i64 x, .int .i64 y] := by unfold pairV edgeN; rw [hx, hy]
  rw [e0]
  obtain ⟨i, hi⟩ : ∃ i, Jor.nx n = i := ⟨_, rfl⟩
  obtain ⟨j, hj⟩ : ∃ j, Jor.pv n = j := ⟨_, rfl⟩
  rw [hi] at HN HX
  rw [hj] at HP HY
  obtain ⟨aT, cT, rfl, -⟩ := h
  obtain ⟨l0, x0, -, x1, -⟩ := hb1.two
  obtain ⟨l1, y0, f0, y1, f1⟩ := hb2.two
  have HB0 := Lib.hid hB0
  have HK1 := Lib.hid hb1
  have HK2 := Lib.hid hb2
  have hz0 := hB0.size
  clear e0 hx hy hi hj hn hb1 hb2
  go_enter Tryz.func90, Tryz.ntmps90
  go_upto_region 1 with fail
  generalize (w.alloc (.cells #[.int .i64 N, .slice aT T.length cT] 24)).alloc (.cells #[.int .i64 0, .int .i64 0] 108) = W0 at *
  have HX2 := Lib.hid (fun (W : World) (hW : Below W0.heap.size W0 W) => HX.out W (hB0.trans (hW.mono hz0)))
  have HY2 := Lib.hid (fun (W : World) (hW : Below W0.heap.size W0 W) => HY.out W (hB0.trans (hW.mono hz0)))
  generalize hs : w.heap.size = s at *
  have hcur : Below W0.heap.size W0 W0.drew := (Below.refl _ _).drew
  clear hB0 HX HY
  go_region_held3 (fun w' => w'.cell? ⟨s, 0, none⟩ = some (.int .i64 N) ∧ w'.cell? ⟨s, 1, none⟩ = some (.slice aT T.length cT)) (first | go_keep | exact ⟨(hcur.cell (p := ⟨s, 0, none⟩) l0).trans x0, (hcur.cell (p := ⟨s, 1, none⟩) l0).trans x1⟩)
    (first
    | (go_at_call 42; with_reducible refine (HN.out _).mono ?_; rintro e w' ⟨rfl, rfl⟩)
    | (go_at_call 43; with_reducible refine (HP.out _).mono ?_; rintro e w' ⟨rfl, rfl⟩)
    | (go_at_call 44; (first | with_reducible refine (HX2.out _ hcur).mono ?_ | with_reducible refine (HY2.out _ hcur).mono ?_); rintro e w9 ⟨rfl, hb9⟩; have hcur9 := hcur.trans (hb9.mono hcur.size); clear hb9 hcur; have hcur := hcur9; clear hcur9; obtain ⟨l1', y0', f0', y1', f1'⟩ := (HK2.out.below hcur HK2.out.lt).two))
  all_goals
    have HB9 := Lib.hid (HB0.out.trans (hcur.mono hz0))
    have hk := (HK2.out.below hcur HK2.out.lt)
    have h9 := (hk.set_ 0 (.int .i64 x)).set_ 1 (.int .i64 y)
    have HK9 := Lib.hid (show Blk _ (s + 1) 108 #[.int .i64 x, .int .i64 y] from by simpa using h9)
    have HBe := Lib.hid ((HB9.out.setCell (p := ⟨s + 1, 0, none⟩) (by simp) (.int .i64 x)).setCell (p := ⟨s + 1, 1, none⟩) (by simp) (.int .i64 y))
    clear hk h9
    go_wp2
    obtain ⟨-, p0, -, p1, -⟩ := HK9.out.two
    refine bodyPost_ret (v := .agg #[.int .i64 x, .int .i64 y]) (by simp [results, Tryz.results90, go_sem, p0, p1]) rfl ?_
    exact ⟨rfl, by rw [hs]; exact HBe.out⟩
end Go.Proofs.YtghlnknncahkgaaGreat
namespace Go.Proofs.YtghlnknncahkgaaGreat
open Go.RowKit Go.Maps

theorem pairEq9 (a b a' b' : Int) (w : World) :
    (Op.equalIn 10000 108 (.agg #[.int .i64 a, .int .i64 b]) (.agg #[.int .i64 a', .int .i64 b'])).run Tryz.prog w = .ok (decide ((a, b) = (a', b'))) w := by
  have e : decide ((a, b) = (a', b')) = (a == a' && b == b') := by
    simp only [Prod.mk.injEq]
    by_cases h1 : a = a' <;> by_cases h2 : b = b' <;> simp [h1, h2]
  rw [e]
  show (Op.equalIn (9998 + 2) _ _ _).run _ _ = _
  rw [Op.equalIn]
  simp [run_underlying Tryz.underlying108, List.range'_succ, part, go_sem]
  by_cases h1 : a = a' <;> by_cases h2 : b = b' <;> simp [h1, h2]
set_option maxRecDepth 100000 in
set_option maxHeartbeats 2000000 in
theorem facing10_any (N a b : Int) (v : Value) (T : List Tr) (w : World) (h : TrisRd w v T) (hl : T.length ≤ 100000) :
    Calls Tryz.prog 91 #[.agg #[.int .i64 N, v], .agg #[.int .i64 a, .int .i64 b]] w fun e w' => e = .returned (.int .i64 (facI T (a, b))) ∧ Below w.heap.size w w' := by
  have hb1 := (Blk.new w 24 #[.int .i64 N, v]).alloc (.cells #[.int .i64 a, .int .i64 b] 108)
  have hb2 : Blk ((w.alloc (.cells #[.int .i64 N, v] 24)).alloc (.cells #[.int .i64 a, .int .i64 b] 108)) (w.heap.size + 1) 108 #[.int .i64 a, .int .i64 b] := blk_new_at (by simp)
  have hB0 : Below w.heap.size w ((w.alloc (.cells #[.int .i64 N, v] 24)).alloc (.cells #[.int .i64 a, .int .i64 b] 108)) := ((Below.refl _ _).alloc (Nat.le_refl _) _).alloc (by simp) _
  have HE := Lib.hid (fun (k : Nat) (hk : k < 3 * T.length) (W : World) (hW : Below w.heap.size w W) => edge10_any N k v T W (h.below hW) hk hl)
  obtain ⟨aT, cT, rfl, -⟩ := h
  obtain ⟨n, hn⟩ : ∃ n, T.length = n := ⟨_, rfl⟩
  rw [hn] at hb1 hb2 hB0 HE hl ⊢
  obtain ⟨A, hA⟩ : ∃ A, facI T (a, b) = A := ⟨_, rfl⟩
  rw [hA]
  have Hn := Lib.hid hn
  have HA := Lib.hid hA
  have HB0 := Lib.hid hB0
  have hz0 := hB0.size
  have HK := Lib.hid (And.intro hb1 hb2)
  clear hb1 hb2 hB0 hn hA
  go_enter Tryz.func91, Tryz.ntmps91
  go_wp2
  generalize (w.alloc (.cells #[.int .i64 N, .slice aT n cT] 24)).alloc (.cells #[.int .i64 a, .int .i64 b] 108) = W0 at *
  go_loopw [5] (fun i wr => ∃ k : Nat, k ≤ 3 * n ∧ i = .int .i64 k ∧ Below W0.heap.size W0 wr ∧ facFrom T 0 (a, b) = facFrom T k (a, b)) (fun i _ => 3 * n - (intOf i).toNat)
  case atStart => exact ⟨0, Nat.zero_le _, rfl, Below.refl _ _, rfl⟩
  case round =>
    rename World => wr
    obtain ⟨k, hk, rfl, hB, hF⟩ := hrel
    have HB := Lib.hid hB
    have HF := Lib.hid hF
    obtain ⟨l0, x0, -, x1, -⟩ := (HK.out.1.below hB HK.out.1.lt).two
    obtain ⟨l1, y0, -, y1, -⟩ := (HK.out.2.below hB HK.out.2.lt).two
    clear hB hF
    by_cases hlt : k < 3 * n
    · have hki : (k : Int) < 3 * (n : Int) := by omega
      have hkT : k < 3 * T.length := by rw [Hn.out]; exact hlt
      obtain ⟨ex, ey, he⟩ : ∃ ex ey, edgeN T k = (ex, ey) := ⟨_, _, rfl⟩
      have HEk := Lib.hid (fun (W : World) (hW : Below w.heap.size w W) => show Calls Tryz.prog 90 #[.agg #[.int .i64 N, .slice aT n cT], .int .i64 (k : Int)] W fun e w' => e = .returned (.agg #[.int .i64 ex, .int .i64 ey]) ∧ Below W.heap.size W w' from by
        have := HE.out k hlt W hW
        rw [he] at this
        exact this)
      have HBq := Lib.hid (fun (d : Nat) (os : Array Obj) => HB0.out.trans ((HB.out.trans ((below_regrown wr d os).mono HB.out.size)).mono hz0))
      have HB2 := Lib.hid (fun (d : Nat) (os : Array Obj) => HB.out.trans ((below_regrown wr d os).mono HB.out.size))
      have He := Lib.hid he
      clear he hkT
      by_cases hq : (ex, ey) = (a, b)
      · have qe := fun W : World => pairEq9 ex ey a b W
        rw [decide_eq_true hq] at qe
        have HY := Lib.hid (show A = (k : Int) from by rw [← HA.out]; exact facI_at (by rw [Hn.out]; exact hlt) HF.out (He.out.trans hq))
        clear hq
        go_upto_region 4 with fail
        have u0 := cell_regrown x0
        have u1 := cell_regrown x1
        have u2 := cell_regrown y0
        have u3 := cell_regrown y1
        refine wp_region_quiet_below (by kernel_rfl) (by kernel_rfl) ?_
        repeat (go_big_quiet_step ((go_at_call 90; with_reducible exact Calls.regrown_of (HEk.out _ (HBq.out _ _)))))
        refine wpQuiet_nil ?_
        intro _ hw'
        obtain ⟨⟨dq, osq⟩, hw''⟩ := hw'
        subst hw''
        have HB9 := Lib.hid (HBq.out dq osq)
        clear u0 u1 u2 u3 x0 x1 y0 y1
        go_wp2
        go_ret
        exact ⟨by rw [HY.out]; rfl, HB9.out⟩
      · have qe := fun W : World => pairEq9 ex ey a b W
        rw [decide_eq_false hq] at qe
        have HY := Lib.hid (facFrom_on (by rw [Hn.out]; exact hlt) HF.out (by rw [He.out]; exact hq))
        clear hq
        go_upto_region 4 with fail
        have u0 := cell_regrown x0
        have u1 := cell_regrown x1
        have u2 := cell_regrown y0
        have u3 := cell_regrown y1
        refine wp_region_quiet_below (by kernel_rfl) (by kernel_rfl) ?_
        repeat (go_big_quiet_step ((go_at_call 90; with_reducible exact Calls.regrown_of (HEk.out _ (HBq.out _ _)))))
        refine wpQuiet_nil ?_
        intro _ hw'
        obtain ⟨⟨dq, osq⟩, hw''⟩ := hw'
        subst hw''
        have HB9 := Lib.hid (HB2.out dq osq)
        clear u0 u1 u2 u3 x0 x1 y0 y1
        go_wp2
        go_roundw
        case measure => simp [intOf]; omega
        case rel => exact ⟨k + 1, by omega, by go_num, HB9.out, HY.out⟩
    · obtain rfl : k = 3 * n := by omega
      have HY := Lib.hid (show A = -1 from by rw [← HA.out]; exact facI_no (by rw [Hn.out]; exact HF.out))
      have HB9 := Lib.hid (HB0.out.trans (HB.out.mono hz0))
      have hd : decide (((3 * n : Nat) : Int) < 3 * (n : Int)) = false := by simp
      push_cast at *
      go_wp2
      go_ret
      exact ⟨by rw [HY.out]; rfl, HB9.out⟩
set_option maxRecDepth 100000 in
set_option maxHeartbeats 2000000 in
theorem opp10_any (N : Int) (n : Nat) (v : Value) (T : List Tr) (w : World) (h : TrisRd w v T) (hn : n < 3 * T.length) (hl : T.length ≤ 100000) :
    Calls Tryz.prog 71 #[.agg #[.int .i64 N, v], .int .i64 (n : Int)] w fun e w' => e = .returned (.int .i64 (oppI T (n : Int))) ∧ Below w.heap.size w w' := by
  have hb1 := Blk.new w 24 #[.int .i64 N, v]
  have hB0 : Below w.heap.size w (w.alloc (.cells #[.int .i64 N, v] 24)) := (Below.refl _ _).alloc (Nat.le_refl _) _
  obtain ⟨ex, ey, he⟩ : ∃ ex ey, edgeN T n = (ex, ey) := ⟨_, _, rfl⟩
  have HE := Lib.hid (show Calls Tryz.prog 90 #[.agg #[.int .i64 N, v], .int .i64 (n : Int)] _ fun e w' => e = .returned (.agg #[.int .i64 ex, .int .i64 ey]) ∧ Below _ _ w' from by
    have := edge10_any N n v T _ (h.below hB0) hn hl
    rw [he] at this
    exact this)
  have ho : oppI T (n : Int) = facI T (ey, ex) := by unfold oppI; rw [edgeI_nat hn, he]
  rw [ho]
  have HF := Lib.hid (fun (W : World) (hW : Below w.heap.size w W) => facing10_any N ey ex v T W (h.below hW) hl)
  obtain ⟨aT, cT, rfl, -⟩ := h
  obtain ⟨l0, x0, -, x1, -⟩ := hb1.two
  have HB0 := Lib.hid hB0
  have HK := Lib.hid hb1
  clear hb1 hB0 ho he hn
  go_enter Tryz.func71, Tryz.ntmps71
  go_upto_region 2 with (go_at_call 90; go_loud (with_reducible refine HE.out.mono ?_; rintro e w1 ⟨rfl, hb⟩))
  have hA := (Below.refl w1.heap.size w1).alloc (Nat.le_refl _) (.cells #[.int .i64 ex, .int .i64 ey] 108)
  have hk := (HK.out.below hb l0).below hA (Nat.lt_of_lt_of_le l0 hb.size)
  have hq := Blk.new w1 108 #[.int .i64 ex, .int .i64 ey]
  have hBw := HB0.out.trans ((hb.trans (hA.mono hb.size)).mono HB0.out.size)
  obtain ⟨l2, y0, -, y1, -⟩ := hk.two
  obtain ⟨l3, z0, -, z1, -⟩ := hq.two
  have HF2 := Lib.hid (HF.out _ hBw)
  have HBw := Lib.hid hBw
  clear hA hk hq hBw hb x0 x1 l0
  generalize w1.alloc (.cells #[.int .i64 ex, .int .i64 ey] 108) = W1 at *
  go_wp2_with (go_at_call 91; with_reducible refine HF2.out.mono ?_; rintro e w2 ⟨rfl, hb2⟩)
  go_ret
  exact ⟨rfl, HBw.out.trans (hb2.mono HBw.out.size)⟩
end Go.Proofs.YtghlnknncahkgaaGreat
namespace Go.Proofs.YtghlnknncahkgaaGreat
open Go.RowKit Go.Maps

theorem thereL_nil (F : Nat) : thereL F [] = List.replicate F false := by
  apply List.ext_getElem?
  intro j
  by_cases hj : j < F
  · rw [thereL_at hj]
    simp [trisOf, hj]
  · rw [List.getElem?_eq_none (by rw [thereL_len]; omega), List.getElem?_eq_none (by simp; omega)]
theorem thereL_one (F c : Nat) : thereL F [c] = (List.replicate F false).set (c / 3) true := by
  have := thereL_add (F := F) (L := []) (o := c)
  rw [thereL_nil] at this
  exact this
theorem rep_snoc (k : Nat) : intsV (List.replicate (k + 1) (-1)) = intsV (List.replicate k (-1)) ++ [.int .i64 (-1)] := by
  rw [List.replicate_succ']
  simp [intsV]
theorem own_nil_blk {W : World} {base g : Nat} (h : Blk W g 3 #[]) (hb : base ≤ g) : W.ownsRow base 3 1 (.slice (some ⟨g, 0, none⟩) 0 0) 0 [] := ⟨rfl, .inr ⟨g, 0, #[], rfl, hb, h, Nat.le_refl _, Nat.zero_le _, rfl, rfl⟩⟩
theorem own_one_blk {W : World} {base g : Nat} {x : Value} (h : Blk W g 3 #[x]) (hb : base ≤ g) : W.ownsRow base 3 1 (.slice (some ⟨g, 0, none⟩) 1 1) 1 [x] := ⟨rfl, .inr ⟨g, 1, #[x], rfl, hb, h, Nat.le_refl _, by decide, rfl, rfl⟩⟩
theorem infoBoolD : (Tryz.prog.info? 4).map (fun i => (i.zero, i.size, i.bytes)) = some (some (.bool false), 1, 1) := by kernel_rfl
set_option maxRecDepth 100000 in
set_option maxHeartbeats 4000000 in
theorem dual_any (N : Int) (c : Nat) (v : Value) (T : List Tr) (w : World) (h : TrisRd w v T) (hc : c < 3 * T.length) (hl : T.length ≤ 1000) :
    Calls Tryz.prog 41 #[.agg #[.int .i64 N, v], .int .i64 (c : Int)] w fun e w' => ∃ vL vO, e = .returned (.tuple #[vL, vO]) ∧
      w'.ownsRow w.heap.size 3 1 vL T.length (intsV (linkL T.length (rtL T c))) ∧ w'.ownsRow w.heap.size 3 1 vO (rtL T c).length (intsV (nats (trisOf (rtL T c)))) ∧ Below w.heap.size w w' := by
  obtain ⟨i2, hj2, b20, b21, b22⟩ := info_parts infoInt
  obtain ⟨i1, hj1, b10, b11, b12⟩ := info_parts infoBoolD
  have hb1 := Blk.new w 24 #[.int .i64 N, v]
  have hB0 : Below w.heap.size w (w.alloc (.cells #[.int .i64 N, v] 24)) := (Below.refl _ _).alloc (Nat.le_refl _) _
  have hIs := is10_any N (c : Int) v T _ (h.below hB0) (by omega)
  rw [hasC_true (T := T) (c := (c : Int)) (by omega) (by omega)] at hIs
  have HIs := Lib.hid hIs
  have HOp := Lib.hid (fun (k : Nat) (hk : k < 3 * T.length) (W : World) (hW : Below w.heap.size w W) => opp10_any N k v T W (h.below hW) hk (by omega))
  obtain ⟨aT, cT, rfl, -⟩ := h
  obtain ⟨F, hF⟩ : ∃ F, T.length = F := ⟨_, rfl⟩
  rw [hF] at hb1 hB0 HIs HOp hl hc ⊢
  obtain ⟨l0, x0, -, x1, -⟩ := hb1.two
  have HF := Lib.hid hF
  have HB0 := Lib.hid hB0
  have HK := Lib.hid hb1
  have hcI : (c : Int) < 3 * (F : Int) := by omega
  obtain ⟨ct, hct⟩ : ∃ ct, c / 3 = ct := ⟨_, rfl⟩
  have hc3 : ct < F := by omega
  have e3 : (c : Int) / 3 = (ct : Int) := by omega
  have Hct := Lib.hid hct
  clear hct
  have hcb0 : (0 : Int) ≤ (c : Int) := by omega
  have hcb1 : (c : Int) ≤ 100000 := by omega
  clear hb1 hB0 hIs hF
  go_enter Tryz.func41, Tryz.ntmps41
  go_upto_region 3 with (go_at_call 40; go_loud (with_reducible refine HIs.out.mono ?_; rintro e w1 ⟨rfl, hb⟩))
  have hBw := HB0.out.trans (hb.mono HB0.out.size)
  have hk := HK.out.below hb l0
  obtain ⟨l1, y0, -, y1, -⟩ := hk.two
  have HB1 := Lib.hid hBw
  have HK1 := Lib.hid hk
  have hz1 := hBw.size
  clear hb hBw hk x0 x1
  go_upto_region 5 with (at_make; refine wpList_make_full _ rfl (.tmp 23) (.tmp 23) 122 rfl w1.heap.size 4 i1 _ 1 Tryz.underlying122 hj1 b10 b11 .i64 .i64 _ _ F rfl rfl rfl rfl (by rw [b12]; omega) (by unfold maxLen; omega) (by simp) ?_; intro w2 hr2 hg2)
  rw [made_bools, show (w1.alloc (.cells #[] 3)).heap.size = w1.heap.size + 1 from by simp] at hr2
  have hL2 := (own_nil_blk (base := w1.heap.size) (Blk.new w1 3 #[]) (Nat.le_refl _)).kept hg2 (.inr (by simp [Value.ownBlock]))
  have hb2 : Below w1.heap.size w1 w2 := ((Below.refl w1.heap.size w1).alloc (Nat.le_refl _) (.cells #[] 3)).grown hg2 (by simp) (fun j e => by cases e)
  have H2 := Lib.hid (And.intro hL2 (And.intro hr2 hb2))
  generalize hgh : w1.heap.size + 1 = gH at *
  clear hL2 hr2 hg2 hb2
  go_wp2
  clear y0 y1
  go_loopw [6, 8] (fun vL i wr => ∃ k : Nat, k ≤ F ∧ i = .int .i64 k ∧ wr.ownsRow w1.heap.size 3 1 vL k (intsV (List.replicate k (-1))) ∧ wr.ownsRow w1.heap.size 4 1 (.slice (some ⟨gH, 0, none⟩) F F) F (bools (List.replicate F false)) ∧ Below w1.heap.size w1 wr) (fun _ i _ => F - (intOf i).toNat)
  case atStart => exact ⟨0, Nat.zero_le _, rfl, H2.out.1, H2.out.2.1, H2.out.2.2⟩
  case round =>
    rename World => wr
    obtain ⟨k, hk, rfl, hrL, hrH, hbr⟩ := hrel
    obtain ⟨l2, y0, -, y1, -⟩ := (HK1.out.below hbr l1).two
    have hzr := hbr.size
    by_cases hlt : k < F
    · have hki : (k : Int) < (F : Int) := by omega
      have HA := Lib.hid (And.intro hrL (And.intro hrH hbr))
      have c6 : k + 1 ≤ maxLen := by unfold maxLen; omega
      have c7 : (k + 1) * 8 ≤ 140737488355328 := by omega
      have hrLa := own_below hrL ((Below.refl wr.heap.size wr).alloc (Nat.le_refl _) (.cells #[.int .i64 (-1)] 3))
      have HLa := Lib.hid hrLa
      clear hrL hrH hbr hrLa
      go_upto_region 7 with (at_builtin; go_loud (refine wpList_append_lies _ rfl (.tmp 32) (.tmp 33) 28 rfl w1.heap.size 3 i2 _ 1 8 Tryz.underlying28 hj2 b20 b21 b22 rfl (by decide) _ _ _ rfl HLa.out ⟨wr.heap.size, 0, none⟩ 1 1 [.int .i64 (-1)] rfl rfl (World.news_of_block (heap_alloc_new _ _)) (by simp [Value.oneCell']) (by decide) c6 c7 (by simp; omega) (wr.heap.size + 1) (by simp) ?_); go_loud (intro g8 cap8 W8 hr8 hg8 hat8 hlt8))
      have hH8 := ((own_below HA.out.2.1 ((Below.refl wr.heap.size wr).alloc (Nat.le_refl _) (.cells #[.int .i64 (-1)] 3)))).kept hg8 (own_own_ne (own_below HA.out.2.1 ((Below.refl wr.heap.size wr).alloc (Nat.le_refl _) (.cells #[.int .i64 (-1)] 3))) HLa.out (by decide))
      have hb8 := (HA.out.2.2.trans (((Below.refl wr.heap.size wr).alloc (Nat.le_refl _) (.cells #[.int .i64 (-1)] 3)).mono hzr)).grown hg8 (by simp; omega) (fun j e => (HLa.out.lt j e).1)
      have H8 := Lib.hid (And.intro hr8 (And.intro hH8 hb8))
      clear hr8 hg8 hat8 hlt8 hH8 hb8
      go_wp2
      go_roundw
      case measure => simp [intOf]; omega
      case rel => exact ⟨k + 1, by omega, by go_num, by rw [rep_snoc]; exact H8.out.1, H8.out.2.1, H8.out.2.2⟩
    · obtain rfl : F = k := by omega
      have hF0 : 0 < F := by omega
      obtain ⟨gL, cL, rfl, -, hgL⟩ := hrL.form hF0
      have hcl := hrH.cellAt ct (by omega)
      have hc1 : wr.cell? ⟨gH, ct, none⟩ = some (.bool false) := by
        rw [hcl]
        unfold bools
        simp [hc3]
      have hfz := hrH.frozenAt ct
      have hst := hrH.stored ct (.bool true)
      have hrLa := hrL.kept hst.2 (own_own_ne hrL hrH (by decide))
      have hst1 := hst.1
      rw [bools_set9, ← Hct.out, ← thereL_one, Hct.out] at hst1
      rw [← linkL_one F c] at hrLa
      have hAl := (Below.refl (wr.setCell ⟨gH, ct, none⟩ (.bool true)).heap.size (wr.setCell ⟨gH, ct, none⟩ (.bool true))).alloc (Nat.le_refl _) (.cells #[.int .i64 (ct : Int)] 3)
      have hrOa : ((wr.setCell ⟨gH, ct, none⟩ (.bool true)).alloc (.cells #[.int .i64 (ct : Int)] 3)).ownsRow w1.heap.size 3 1 (.slice (some ⟨wr.heap.size, 0, none⟩) 1 1) 1 [.int .i64 (ct : Int)] := own_one_blk (blk_new_at (by simp)) hzr
      have HI0 := Lib.hid (show DuSt w1 ((wr.setCell ⟨gH, ct, none⟩ (.bool true)).alloc (.cells #[.int .i64 (ct : Int)] 3)) F [c] [c] (.slice (some ⟨gL, 0, none⟩) F cL) (.slice (some ⟨gH, 0, none⟩) F F) (.slice (some ⟨wr.heap.size, 0, none⟩) 1 1) from
        ⟨own_below hrLa hAl, own_below hst1 hAl, (by have e : intsV (nats (trisOf [c])) = [.int .i64 (ct : Int)] := (by show [Value.int .i64 ((c / 3 : Nat) : Int)] = _; rw [Hct.out]); rw [e]; exact hrOa), fun j e e2 => by
          have e3 : gL = j := by simpa [Value.ownBlock] using e
          have e4 : wr.heap.size = j := by simpa [Value.ownBlock] using e2
          omega, (hbr.grown hst.2 hzr (fun j e => by cases e; exact (hrH.lt gH rfl).1)).trans (hAl.mono (Nat.le_trans hzr hst.2.size))⟩)
      have hgHl := (hrH.lt gH rfl).2
      clear hrL hrH hbr hcl hAl hst hrLa hrOa hst1 H2
      go_wp2
      clear y0 y1 hc1 hfz
      go_loopw [9, 10] (fun vO i wx => ∃ k L, i = .int .i64 ((k : Nat) : Int) ∧ DuRel T c k L ∧ DuSt w1 wx F L L (.slice (some ⟨gL, 0, none⟩) F cL) (.slice (some ⟨gH, 0, none⟩) F F) vO) (fun _ i _ => F + 1 - (intOf i).toNat)
      case atStart => exact ⟨0, [c], rfl, DuRel.first (by rw [HF.out]; exact hc), HI0.out⟩
      case round =>
        clear HI0
        rename World => wx
        obtain ⟨k, L, rfl, hR, hI⟩ := hrel
        have hlen := hR.ok.len
        rw [HF.out] at hlen
        have hkl := hR.le
        obtain ⟨gO, cO, rfl, -, hgO⟩ := hI.rO.form (List.length_pos_iff.2 hR.ne)
        have hzx := hI.bel.size
        by_cases hkL : k < L.length
        · obtain ⟨d, hd⟩ : ∃ d, L[k]? = some d := ⟨L[k], List.getElem?_eq_getElem hkL⟩
          have hd3 : d < 3 * F := by have := hR.ok.lt d (List.mem_of_getElem? hd); rw [HF.out] at this; exact this
          have hd4 : d / 3 < F := by omega
          obtain ⟨dt, hdt⟩ : ∃ dt, d / 3 = dt := ⟨_, rfl⟩
          have o0 : wx.cell? ⟨gO, k, none⟩ = some (.int .i64 (dt : Int)) := by
            rw [hI.rO.cellAt k (by omega)]
            unfold intsV nats trisOf
            rw [List.getElem?_map, List.getElem?_map, List.getElem?_map, hd, ← hdt]
            rfl
          obtain ⟨lv, fv, sv, hlv, HN1, HN2, HS⟩ : ∃ (lv : Int) (fv sv : Nat), lv = (if k = 0 then -1 else (d : Int)) ∧ Hid (∀ W, Calls Tryz.prog 42 #[.int .i64 lv] W fun e w' => e = .returned (.int .i64 (fv : Int)) ∧ w' = W) ∧ Hid (∀ W, Calls Tryz.prog 42 #[.int .i64 (fv : Int)] W fun e w' => e = .returned (.int .i64 (sv : Int)) ∧ w' = W) ∧ Hid ((k = 0 → lv = -1) ∧ (k ≠ 0 → 0 ≤ lv ∧ sidesD c k d = [fv, sv])) := by
            by_cases hk0 : k = 0
            · exact ⟨-1, 0, 1, by rw [if_pos hk0], Lib.hid (fun W => next10_none W), Lib.hid (fun W => next10_any 0 W (by omega)), Lib.hid ⟨fun _ => rfl, fun h => absurd hk0 h⟩⟩
            · refine ⟨d, Jor.nx d, Jor.pv d, by rw [if_neg hk0], Lib.hid (fun W => next10_any d W (by omega)), Lib.hid (fun W => ?_), Lib.hid ⟨fun h => absurd h hk0, fun _ => ⟨by omega, by unfold sidesD; rw [if_neg hk0]⟩⟩⟩
              rw [← Jor.nx_nx d]
              exact next10_any (Jor.nx d) W (by have := Jor.nx_lt hd3; omega)
          have k0 : wx.cell? ⟨gL, dt, none⟩ = some (.int .i64 lv) := by
            rw [hI.rL.cellAt dt (by omega)]
            unfold intsV
            rw [List.getElem?_map, ← hdt, linkL_at hR.ok.nd hd hd4, hlv]
            rfl
          have hki : (k : Int) < (L.length : Int) := by omega
          have hdi : (dt : Int) < (F : Int) := by omega
          have HR := Lib.hid hR
          obtain ⟨n, hn⟩ : ∃ n, L.length = n := ⟨_, rfl⟩
          rw [hn] at hI
          have HI := Lib.hid hI
          have Hd := Lib.hid hd
          have hlO := (hI.rO.lt gO rfl).2
          have hlL := (hI.rL.lt gL rfl).2
          have Hlv := Lib.hid hlv
          have Hd3 := Lib.hid hd3
          rw [hn] at hki hlen ⊢
          have HLn := Lib.hid hn
          clear hI hR hd hlv hdt hd4 hd3 hn hkL hkl
          go_upto_if 65 with (go_at_call 42; (first | with_reducible refine (HN1.out _).mono ?_ | with_reducible refine (HN2.out _).mono ?_); rintro e w9 ⟨rfl, rfl⟩)
          have hA2 := (Below.refl w9.heap.size w9).alloc (Nat.le_refl _) (.cells #[.int .i64 (fv : Int), .int .i64 (sv : Int)] 3)
          have HI2 := Lib.hid (HI.out.below hA2)
          have hq2 := Blk.new w9 3 #[.int .i64 (fv : Int), .int .i64 (sv : Int)]
          have hl2 := (HK1.out.below HI.out.bel l1).below hA2 (Nat.lt_of_lt_of_le l1 HI.out.bel.size)
          have k1 := (hA2.cell (p := ⟨gL, dt, none⟩) hlL).trans k0
          generalize hw2 : w9.alloc (.cells #[.int .i64 (fv : Int), .int .i64 (sv : Int)] 3) = W2 at *
          have HQ2 := Lib.hid hq2
          have hz2 := hq2.lt
          generalize w9.heap.size = q2 at *
          obtain ⟨l3, y0', -, y1', -⟩ := hl2.two
          clear hA2 hq2 hl2 hw2 k0 o0
          go_cut [13] (fun v13 W => ∃ gs q, v13 = .slice (some ⟨gs, 0, none⟩) q q ∧ (sidesD c k d).length = q ∧ Blk W gs 3 (intsV (nats (sidesD c k d))).toArray ∧ DuSt w1 W F L L (.slice (some ⟨gL, 0, none⟩) F cL) (.slice (some ⟨gH, 0, none⟩) F F) (.slice (some ⟨gO, 0, none⟩) n cO) ∧ gs ≠ gL ∧ gs ≠ gO)
          case first =>
            by_cases hk0 : k = 0
            · have hlv := HS.out.1 hk0
              subst hlv
              have hcd : sidesD c k d = [c, Jor.nx c, Jor.pv c] := by unfold sidesD; rw [if_pos hk0]
              have HCd := Lib.hid hcd
              have HNc := Lib.hid (fun (W : World) => next10_any c W (by omega))
              have HPc := Lib.hid (fun (W : World) => prev10_any c W (by omega))
              obtain ⟨nc, hnc⟩ : ∃ nc, Jor.nx c = nc := ⟨_, rfl⟩
              obtain ⟨pc, hpc⟩ : ∃ pc, Jor.pv c = pc := ⟨_, rfl⟩
              rw [hnc] at HNc HCd
              rw [hpc] at HPc HCd
              clear hcd hk0 hnc hpc
              go_upto_region 18 with fail
              go_wp2_with (first | (go_at_call 42; with_reducible refine (HNc.out _).mono ?_; rintro e w8 ⟨rfl, rfl⟩) | (go_at_call 43; with_reducible refine (HPc.out _).mono ?_; rintro e w8 ⟨rfl, rfl⟩))
              go_meet
              rename World => W8
              have hA3 := (Below.refl W8.heap.size W8).alloc (Nat.le_refl _) (.cells #[.int .i64 (c : Int), .int .i64 (nc : Int), .int .i64 (pc : Int)] 3)
              exact ⟨_, 3, rfl, by rw [HCd.out]; rfl, by rw [HCd.out]; exact Blk.new W8 _ _, HI2.out.below hA3, by omega, by omega⟩
            · obtain ⟨hlv, hsd⟩ := HS.out.2 hk0
              have HSd := Lib.hid hsd
              have hd9 : decide (lv < 0) = false := by simp; omega
              clear hk0 hsd
              go_wp2
              go_meet
              exact ⟨_, 2, rfl, by rw [HSd.out]; rfl, by rw [HSd.out]; exact HQ2.out, HI2.out, by omega, by omega⟩
          case rest =>
            obtain ⟨gs, q, rfl, hq, hbs, hI3, hsL, hsO⟩ := hcut
            rename World => W3
            obtain ⟨sd, hsd⟩ : ∃ sd, sidesD c k d = sd := ⟨_, rfl⟩
            have hsl : ∀ e ∈ sd, e < 3 * F := by
              have h3 := Hd3.out
              intro e he
              rw [← hsd] at he
              unfold sidesD at he
              split at he
              · simp only [List.mem_cons, List.not_mem_nil, or_false] at he
                rcases he with rfl | rfl | rfl
                · exact hc
                · exact Jor.nx_lt hc
                · exact Jor.pv_lt hc
              · simp only [List.mem_cons, List.not_mem_nil, or_false] at he
                rcases he with rfl | rfl
                · exact Jor.nx_lt h3
                · exact Jor.pv_lt h3
            rw [hsd] at hq hbs
            have Hsd := Lib.hid hsd
            have Hsl := Lib.hid hsl
            have Hq := Lib.hid hq
            have hq3 : q ≤ 3 := by rw [← hq, ← hsd]; unfold sidesD; split <;> simp
            have HI4 := Lib.hid (And.intro hI3 hbs)
            have HLO := Lib.hid HR.out.ok
            have HLne := Lib.hid HR.out.ne
            clear hsd hsl hq hI3 hbs HI2 HQ2 HN1 HN2 HS k1 y0' y1' l3
            go_wp2
            go_loopw [9, 14] (fun vO i wy => ∃ j : Nat, j ≤ q ∧ i = .int .i64 j ∧ ∃ gO' cO', vO = .slice (some ⟨gO', 0, none⟩) (ovrs T L (sd.take j)).length cO' ∧ DuSt w1 wy F (ovrs T L (sd.take j)) (ovrs T L (sd.take j)) (.slice (some ⟨gL, 0, none⟩) F cL) (.slice (some ⟨gH, 0, none⟩) F F) vO ∧ Blk wy gs 3 (intsV (nats sd)).toArray ∧ gs ≠ gO') (fun _ i _ => q - (intOf i).toNat)
            case atStart => exact ⟨0, Nat.zero_le _, rfl, gO, cO, by rw [← HLn.out]; rfl, HI4.out.1, HI4.out.2, hsO⟩
            case round =>
              clear HI4
              rename World => wy
              obtain ⟨j, hj, rfl, gO', cO', rfl, hIy, hby, hsO'⟩ := hrel
              by_cases hjq : j < q
              · have hjs : j < sd.length := by rw [Hq.out]; exact hjq
                obtain ⟨e, he⟩ : ∃ e, sd[j]? = some e := ⟨sd[j], List.getElem?_eq_getElem hjs⟩
                have he3 := Hsl.out e (List.mem_of_getElem? he)
                have HTk := Lib.hid (ovrs_take (T := T) (L := L) he)
                have hOk := HLO.out.ovrs (sd.take j)
                have hNe := ovrs_ne (T := T) HLne.out (sd.take j)
                obtain ⟨Lj, hLj⟩ : ∃ Lj, ovrs T L (sd.take j) = Lj := ⟨_, rfl⟩
                rw [hLj] at HTk hOk hNe hIy ⊢
                obtain ⟨m, hm⟩ : ∃ m, Lj.length = m := ⟨_, rfl⟩
                have hlenj := hOk.len
                rw [HF.out, hm] at hlenj
                rw [hm] at hIy ⊢
                have Hm := Lib.hid hm
                obtain ⟨x, hx⟩ : ∃ x, oppI T (e : Int) = x := ⟨_, rfl⟩
                have HO := Lib.hid (fun (W : World) (hW : Below w.heap.size w W) => show Calls Tryz.prog 71 #[.agg #[.int .i64 N, .slice aT F cT], .int .i64 (e : Int)] W fun e w' => e = .returned (.int .i64 x) ∧ Below W.heap.size W w' from by
                  have := HOp.out e he3 W hW
                  rw [hx] at this
                  exact this)
                have s0 : wy.cell? ⟨gs, j, none⟩ = some (.int .i64 (e : Int)) := by
                  rw [hby.cell]
                  unfold intsV nats
                  simp [he]
                obtain ⟨l4, y0', -, y1', -⟩ := (HK1.out.below hIy.bel l1).two
                have hlg := hby.lt
                have hjI : (j : Int) < (q : Int) := by omega
                have HBq := Lib.hid (fun (dd : Nat) (os : Array Obj) => (HB1.out.trans (hIy.bel.mono hz1)).trans ((below_regrown wy dd os).mono (Nat.le_trans hz1 hIy.bel.size)))
                have HIy := Lib.hid (And.intro hIy hby)
                have Hx := Lib.hid hx
                have HNe := Lib.hid (And.intro hNe hOk)
                clear hIy hby he he3 hOk hNe hLj hm hjs hx
                go_upto_region 22 with fail
                have u0 := cell_regrown y0'
                have u1 := cell_regrown y1'
                have u2 := cell_regrown s0
                refine wp_region_quiet_below (by kernel_rfl) (by kernel_rfl) ?_
                repeat (go_big_quiet_step ((go_at_call 71; with_reducible exact Calls.regrown_of (HO.out _ (HBq.out _ _)))))
                refine wpQuiet_nil ?_
                intro _ hw'
                obtain ⟨⟨dq, osq⟩, hw''⟩ := hw'
                subst hw''
                have hI5 := HIy.out.1.below (below_regrown wy dq osq)
                have hb5 := HIy.out.2.below (below_regrown wy dq osq) HIy.out.2.lt
                clear u0 u1 u2 y0' y1' s0 l4
                generalize Sort.grow (redrawn wy dq) osq = wz at *
                rcases opp_cases T (e : Int) with h1 | ⟨o, h1, ho⟩
                · have hx1 : x = -1 := Hx.out.symm.trans h1
                  subst hx1
                  have HTj := Lib.hid (show ovrs T L (sd.take (j + 1)) = Lj from by rw [HTk.out]; exact ovr_none h1)
                  have H5 := Lib.hid (And.intro hI5 hb5)
                  clear hI5 hb5 h1
                  go_wp2
                  go_roundw
                  case measure => simp [intOf]; omega
                  case rel => exact ⟨j + 1, by omega, by go_num, gO', cO', by rw [HTj.out, Hm.out], by rw [HTj.out]; exact H5.out.1, H5.out.2, hsO'⟩
                · have hx1 : x = (o : Int) := Hx.out.symm.trans h1
                  subst hx1
                  rw [HF.out] at ho
                  obtain ⟨ot, hot⟩ : ∃ ot, o / 3 = ot := ⟨_, rfl⟩
                  have hot3 : ot < F := by omega
                  have e3o : (o : Int) / 3 = (ot : Int) := by omega
                  have ho0 : (0 : Int) ≤ (o : Int) := by omega
                  have ho1 : (o : Int) ≤ 100000 := by omega
                  have hotI : (ot : Int) < (F : Int) := by omega
                  have hcH := hI5.rH.cellAt ot (by omega)
                  have hth := thereL_at (L := Lj) hot3
                  have hgHl := (hI5.rH.lt gH rfl).2
                  have hgLl := (hI5.rL.lt gL rfl).2
                  have Hot := Lib.hid hot
                  by_cases hmem : ot ∈ trisOf Lj
                  · have c1 : wz.cell? ⟨gH, ot, none⟩ = some (.bool true) := by
                      rw [hcH]
                      unfold bools
                      rw [List.getElem?_map, hth, decide_eq_true hmem]
                      rfl
                    have HTj := Lib.hid (show ovrs T L (sd.take (j + 1)) = Lj from by rw [HTk.out]; exact ovr_had h1 (by rw [hot]; exact hmem))
                    have H5 := Lib.hid (And.intro hI5 hb5)
                    clear hI5 hb5 h1 hcH hth hmem ho hot
                    go_wp2
                    go_roundw
                    case measure => simp [intOf]; omega
                    case rel => exact ⟨j + 1, by omega, by go_num, gO', cO', by rw [HTj.out, Hm.out], by rw [HTj.out]; exact H5.out.1, H5.out.2, hsO'⟩
                  · have c1 : wz.cell? ⟨gH, ot, none⟩ = some (.bool false) := by
                      rw [hcH]
                      unfold bools
                      rw [List.getElem?_map, hth, decide_eq_false hmem]
                      rfl
                    have f1 := hI5.rH.frozenAt ot
                    have c2 : wz.cell? ⟨gL, ot, none⟩ = some (.int .i64 ((linkL F Lj).getD ot 0)) := by
                      rw [hI5.rL.cellAt ot (by omega)]
                      unfold intsV
                      have : ot < (linkL F Lj).length := by rw [linkL_len]; exact hot3
                      rw [List.getElem?_map, List.getElem?_eq_getElem this]
                      simp [List.getD, List.getElem?_eq_getElem this]
                    have f2 := hI5.rL.frozenAt ot
                    have HTj := Lib.hid (show ovrs T L (sd.take (j + 1)) = Lj ++ [o] from by rw [HTk.out]; exact ovr_add h1 (by rw [hot]; exact hmem))
                    have hmk := hI5.mark (o := o) HNe.out.1 (by rw [hot]; exact hmem)
                    rw [hot] at hmk
                    have hgh : gH ≠ gs := fun e => own_blk_ne hI5.rH hb5 (by decide) (by rw [← e]; rfl)
                    have hLH : gL ≠ gH := by
                      intro e
                      rcases own_own_ne hI5.rL hI5.rH (by decide) with h | h
                      · cases h
                      · exact h (by rw [e]; rfl)
                    have hbk := (hb5.far (p := ⟨gH, ot, none⟩) (fun e => hgh e.symm) (.bool true)).far (p := ⟨gL, ot, none⟩) hsL (.int .i64 (o : Int))
                    have HM := Lib.hid (And.intro hmk hbk)
                    clear hI5 hb5 h1 hcH hth hmem ho hmk hbk hot
                    go_upto_region 26 with fail
                    generalize (wz.setCell ⟨gH, ot, none⟩ (.bool true)).setCell ⟨gL, ot, none⟩ (.int .i64 (o : Int)) = wm at *
                    have hAm := HM.out.1.alloc (.cells #[.int .i64 (ot : Int)] 3)
                    have HAm := Lib.hid hAm
                    have hzm := HM.out.1.bel.size
                    have hsm := HM.out.2.lt
                    have c6 : m + 1 ≤ maxLen := by unfold maxLen; omega
                    have c7 : (m + 1) * 8 ≤ 140737488355328 := by omega
                    have hrO := hAm.rO
                    rw [Hm.out] at hrO
                    have HrO := Lib.hid hrO
                    clear hAm hrO c1 f1 c2 f2
                    go_upto_region 21 with (at_builtin; go_loud (refine wpList_append_lies _ rfl (.tmp 103) (.tmp 106) 28 rfl w1.heap.size 3 i2 _ 1 8 Tryz.underlying28 hj2 b20 b21 b22 rfl (by decide) (.slice (some ⟨gO', 0, none⟩) m cO') m (intsV (nats (trisOf Lj))) rfl HrO.out ⟨wm.heap.size, 0, none⟩ 1 1 [.int .i64 (ot : Int)] rfl rfl (World.news_of_block (heap_alloc_new _ _)) (by simp [Value.oneCell']) (by decide) c6 c7 (by simp; omega) (wm.heap.size + 1) (by simp) ?_); go_loud (intro g8 cap8 W8 hr8 hg8 hat8 hlt8))
                    have hl8 : (Lj ++ [o]).length = m + 1 := by rw [List.length_append, Hm.out]; rfl
                    have he8 : intsV (nats (trisOf (Lj ++ [o]))) = intsV (nats (trisOf Lj)) ++ [.int .i64 (ot : Int)] := by
                      rw [trisOf_snoc, Hot.out]
                      simp [nats, intsV]
                    have hd8 := HAm.out.appO hg8 (o := o) (v4 := .slice (some ⟨g8, 0, none⟩) (m + 1) cap8) rfl (by rw [hl8, he8]; exact hr8) (hat8.imp id (fun e => by rw [e]; simp))
                    have hb8 := (HM.out.2.alloc (.cells #[.int .i64 (ot : Int)] 3)).grown hg8 (fun e => hsO' (by injection e))
                    have hs8 : gs ≠ g8 := by
                      rcases hat8 with h | h
                      · intro e
                        have : gO' = g8 := by simpa [Value.ownBlock] using h
                        exact hsO' (e.trans this.symm)
                      · omega
                    have H8 := Lib.hid (And.intro hd8 (And.intro hb8 hs8))
                    have Hl8 := Lib.hid hl8
                    clear hr8 hg8 hat8 hlt8 hd8 hb8 hs8 hl8 he8
                    go_wp2
                    go_roundw
                    case measure => simp [intOf]; omega
                    case rel => exact ⟨j + 1, by omega, by go_num, g8, cap8, by rw [HTj.out, Hl8.out], by rw [HTj.out]; exact H8.out.1, H8.out.2.1, H8.out.2.2⟩
              · obtain rfl : j = q := by omega
                rw [List.take_of_length_le (by rw [Hq.out]; exact Nat.le_refl _)] at hIy ⊢
                have hst := HR.out.step Hd.out
                rw [Hsd.out] at hst
                have H5 := Lib.hid (And.intro hst hIy)
                clear hIy hby hst
                go_wp2
                go_roundw
                case measure => simp [intOf]; omega
                case rel => exact ⟨k + 1, ovrs T L sd, by go_num, H5.out.1, H5.out.2⟩
        · have hfin := hR.fin (by omega)
          subst hfin
          obtain ⟨n, hn⟩ : ∃ n, (rtL T c).length = n := ⟨_, rfl⟩
          have HI := Lib.hid (And.intro hI.rL (And.intro hI.rO hI.bel))
          rw [hn] at hkl hkL HI ⊢
          obtain rfl : k = n := by omega
          have Hn := Lib.hid hn
          clear hI hR hn
          go_wp2
          refine bodyPost_ret (v := .tuple #[.slice (some ⟨gL, 0, none⟩) F cL, .slice (some ⟨gO, 0, none⟩) k cO]) (by simp [results, Tryz.results41, go_sem]) rfl ?_
          exact ⟨_, _, rfl, own_lower HI.out.1 hz1, own_lower (by rw [Hn.out]; exact HI.out.2.1) hz1, HB1.out.trans (HI.out.2.2.mono hz1)⟩
end Go.Proofs.YtghlnknncahkgaaGreat
namespace Go.Proofs.YtghlnknncahkgaaGreat
open Go.RowKit Go.Maps

theorem spot_first {old : List Int} {w : Int} {n : Nat} (h : old[n]? = some w) (hb : ∀ m, m < n → old[m]? ≠ some w) : spot old w = n := by
  induction old generalizing n with
  | nil => simp at h
  | cons a l ih =>
    simp only [spot]
    cases n with
    | zero =>
      have e : a = w := by simpa using h
      rw [if_pos e]
    | succ n =>
      have e : a ≠ w := fun e => hb 0 (by omega) (by simp [e])
      rw [if_neg e, ih (n := n) (by simpa using h) (fun m hm => by simpa using hb (m + 1) (by omega))]
theorem mem_of_at {old : List Int} {w : Int} {n : Nat} (h : old[n]? = some w) : w ∈ old := List.mem_of_getElem? h
theorem not_mem_all {old : List Int} {w : Int} (hb : ∀ m, m < old.length → old[m]? ≠ some w) : w ∉ old := by
  intro h
  obtain ⟨i, hi, e⟩ := List.getElem_of_mem h
  exact hb i hi (by rw [List.getElem?_eq_getElem hi, e])
theorem rtF_pre (T : List Tr) : ∀ (n i : Nat) (L : List Nat), ∃ m, rtF T n i L = L ++ m
  | 0, _, L => ⟨[], by simp [rtF]⟩
  | n + 1, i, L => by
    unfold rtF
    cases hd : L[i]? with
    | none => exact ⟨[], by simp⟩
    | some d =>
      obtain ⟨a, ha⟩ := ovr_pre T L (Jor.nx d : Nat)
      obtain ⟨b, hb⟩ := ovr_pre T (ovr T L (Jor.nx d : Nat)) (Jor.pv d : Nat)
      obtain ⟨c, hc⟩ := rtF_pre T n (i + 1) (ovr T (ovr T L (Jor.nx d : Nat)) (Jor.pv d : Nat))
      exact ⟨a ++ b ++ c, by simp only []; rw [hc, hb, ha]; simp⟩
theorem rtL_pre (T : List Tr) (c : Nat) : ∃ m, rtL T c = [c] ++ m := by
  obtain ⟨a, ha⟩ := ovr_pre T [c] (c : Int)
  obtain ⟨b, hb⟩ := rtF_pre T (T.length + 1) 0 (ovr T [c] (c : Int))
  exact ⟨a ++ b, by unfold rtL; rw [hb, ha]; simp⟩
structure RsSt (w2 W : World) (bx : Nat) (old : List Int) (TT : List Tr) (fs : List Int) (vT vV vF : Value) : Prop where
  kx : Blk W bx 24 #[.int .i64 0, vT]
  rT : W.ownsRow w2.heap.size 72 3 vT TT.length (ws3 TT)
  rV : W.ownsRow w2.heap.size 3 1 vV old.length (intsV old)
  rF : W.ownsRow w2.heap.size 3 1 vF fs.length (intsV fs)
  ne : ∀ j, vV.ownBlock = some j → vF.ownBlock ≠ some j
  bel : Below w2.heap.size w2 W
  le : w2.heap.size ≤ bx
section
variable {w2 W W' w4 : World} {bx : Nat} {old fs : List Int} {TT : List Tr} {vT vV vF v4 : Value}
theorem RsSt.below (h : RsSt w2 W bx old TT fs vT vV vF) (hb : Below W.heap.size W W') : RsSt w2 W' bx old TT fs vT vV vF :=
  ⟨h.kx.below hb h.kx.lt, own_below h.rT hb, own_below h.rV hb, own_below h.rF hb, h.ne, h.bel.trans (hb.mono h.bel.size), h.le⟩
theorem RsSt.alloc (h : RsSt w2 W bx old TT fs vT vV vF) (o : Obj) : RsSt w2 (W.alloc o) bx old TT fs vT vV vF := h.below ((Below.refl _ _).alloc (Nat.le_refl _) _)
theorem RsSt.appV (h : RsSt w2 W bx old TT fs vT vV vF) (hg : W.grownBy w4 vV.ownBlock) {old4 : List Int} {g4 k4 c4 : Nat} (hv : v4 = .slice (some ⟨g4, 0, none⟩) k4 c4) (hr : w4.ownsRow w2.heap.size 3 1 v4 old4.length (intsV old4)) (hat : vV.ownBlock = some g4 ∨ W.heap.size ≤ g4) : RsSt w2 w4 bx old4 TT fs vT v4 vF := by
  refine ⟨h.kx.grown hg (fun e => own_blk_ne h.rV h.kx (by decide) e.symm), h.rT.kept hg (own_own_ne h.rT h.rV (by decide)), hr, h.rF.kept hg ?_, ?_, h.bel.grown hg h.bel.size (fun j e => (h.rV.lt j e).1), h.le⟩
  · rcases hF : vF.ownBlock with _ | j
    · exact .inl rfl
    · exact .inr (fun e => h.ne j e.symm hF)
  · intro j ej ek
    subst hv
    have : g4 = j := by simpa [Value.ownBlock] using ej
    subst this
    rcases hat with e | hge
    · exact h.ne _ e ek
    · have := (h.rF.lt _ ek).2
      omega
theorem RsSt.appF (h : RsSt w2 W bx old TT fs vT vV vF) (hg : W.grownBy w4 vF.ownBlock) {fs4 : List Int} {g4 k4 c4 : Nat} (hv : v4 = .slice (some ⟨g4, 0, none⟩) k4 c4) (hr : w4.ownsRow w2.heap.size 3 1 v4 fs4.length (intsV fs4)) (hat : vF.ownBlock = some g4 ∨ W.heap.size ≤ g4) : RsSt w2 w4 bx old TT fs4 vT vV v4 := by
  refine ⟨h.kx.grown hg (fun e => own_blk_ne h.rF h.kx (by decide) e.symm), h.rT.kept hg (own_own_ne h.rT h.rF (by decide)), h.rV.kept hg ?_, hr, ?_, h.bel.grown hg h.bel.size (fun j e => (h.rF.lt j e).1), h.le⟩
  · rcases hV : vV.ownBlock with _ | j
    · exact .inl rfl
    · exact .inr (fun e => h.ne j hV e.symm)
  · intro j ej ek
    subst hv
    have : g4 = j := by simpa [Value.ownBlock] using ek
    subst this
    rcases hat with e | hge
    · exact h.ne _ ej e
    · have := (h.rV.lt _ ej).2
      omega
theorem RsSt.appT (h : RsSt w2 W bx old TT fs vT vV vF) (hg : W.grownBy w4 vT.ownBlock) {T4 : List Tr} (hr : w4.ownsRow w2.heap.size 72 3 v4 T4.length (ws3 T4)) :
    Blk w4 bx 24 #[.int .i64 0, vT] ∧ RsSt w2 (w4.setCell ⟨bx, 1, none⟩ v4) bx old T4 fs v4 vV vF := by
  have c := h.kx.grown hg (fun e => own_blk_ne h.rT h.kx (by decide) e.symm)
  have hS : w4.grownBy (w4.setCell ⟨bx, 1, none⟩ v4) (some bx) := gStR (World.grownBy.refl _ _)
  have rv := h.rV.kept hg (own_own_ne h.rV h.rT (by decide))
  have rf := h.rF.kept hg (own_own_ne h.rF h.rT (by decide))
  exact ⟨c, ⟨by simpa using c.set_ 1 v4, hr.kept hS (.inr (own_blk_ne hr c (by decide))), rv.kept hS (.inr (own_blk_ne rv c (by decide))), rf.kept hS (.inr (own_blk_ne rf c (by decide))), h.ne, (h.bel.grown hg h.bel.size (fun j e => (h.rT.lt j e).1)).setCell h.le _, h.le⟩⟩
end
end Go.Proofs.YtghlnknncahkgaaGreat
