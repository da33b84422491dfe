/-
  Texts joined by program, what the law uses alone: Form CFm MapM ShlE SidP HeldU SurA EachM Rnm Mir Lw46 Awk46.
-/
import Derived.Deep.QuietTactic
import Derived.BigQuiet
import Derived.Lib.Slices
import Derived.OrdersHeld
import Derived.StillTail
import Derived.Deep.RegionHeld3
import Derived.RegionTactic
import Derived.BigRegion
import Derived.Deep.DeepCutAuto
import Derived.Lib.Hide
import Derived.Lib.QuietBelow
import Derived.LoopIn
import Derived.LoopNIn
import Derived.OwnWalkIn
import Derived.RangeFuncBound
import Derived.RangeFuncCalls
import Derived.RangeFuncLeaves
import Derived.RangeFuncNested
import Derived.Shelf.Abstract
import Derived.TacticsInMore
import Derived.Test.YtpnkhgjjlionnaaG5
import Derived.Test.YtpnkhgjjlionnaaG6
import Derived.Test.YtpnkhgjjlionnaaG3
import Derived.Test.YtpnkhgjjlionnaaG4
import Derived.Test.YtpnkhgjjlionnaaG1
import Derived.Test.YtpnkhgjjlionnaaG2
namespace Go.Proofs.Ytpnkhgjjlionnaa
open Go.RowKit Go.Maps Go.Sort

theorem infoRc : (Try.prog.info? 142).map (fun i => (i.zero, i.size, i.bytes)) = some (some (.agg #[.slice none 0 0, .int .i64 0, .slice none 0 0, .slice none 0 0, .slice none 0 0, .slice none 0 0]), 6, 128) := by kernel_rfl
theorem infoSoup : (Try.prog.info? 24).map (fun i => (i.zero, i.size, i.bytes)) = some (some (.agg #[.int .i64 0, .slice none 0 0]), 2, 32) := by kernel_rfl
/-- The best so far, as records. -/
def bestR (T P : List Tr) (K out : List Int) (m k : Nat) : List (Option RecM) := (bestK (rowC T P K) out m k).map (Option.map (fromM T P K))
theorem bestR_zero (T P : List Tr) (K out : List Int) (m : Nat) : bestR T P K out m 0 = List.replicate m none := by simp [bestR, bestK]
theorem bestR_len (T P : List Tr) (K out : List Int) (m k : Nat) : (bestR T P K out m k).length = m := by simp [bestR, bestK_len]
theorem bestR_get {T P : List Tr} {K out : List Int} {m k n : Nat} (hn : n < m) : (bestR T P K out m k)[n]? = some (((bestK (rowC T P K) out m k).getD n none).map (fromM T P K)) := by
  have hl : n < (bestK (rowC T P K) out m k).length := by rw [bestK_len]; exact hn
  unfold bestR
  rw [List.getElem?_map, List.getElem?_eq_getElem hl]
  simp [List.getD, List.getElem?_eq_getElem hl]
/-- One corner more: it is put, or not. -/
theorem bestR_put {T P : List Tr} {K out : List Int} {m k n : Nat} (hn : at_ out (k / 3) = (n : Int)) (h : pickC (rowC T P K) ((bestK (rowC T P K) out m k).getD n none) k = some k) : bestR T P K out m (k + 1) = (bestR T P K out m k).set n (some (fromM T P K k)) := by
  unfold bestR
  rw [bestK_succ]
  unfold bestS
  rw [hn, Int.toNat_natCast, h, List.map_set]
  rfl
theorem bestR_keep {T P : List Tr} {K out : List Int} {m k n : Nat} (hn : at_ out (k / 3) = (n : Int)) (h : pickC (rowC T P K) ((bestK (rowC T P K) out m k).getD n none) k = (bestK (rowC T P K) out m k).getD n none) : bestR T P K out m (k + 1) = bestR T P K out m k := by
  unfold bestR
  rw [bestK_succ]
  unfold bestS
  rw [hn, Int.toNat_natCast, h]
  congr 1
  apply List.ext_getElem?
  intro j
  rw [List.getElem?_set]
  split
  · subst j
    split
    · rename_i hl
      simp [List.getD, List.getElem?_eq_getElem hl]
    · rename_i hl
      rw [List.getElem?_eq_none (by omega)]
  · rfl
theorem bestR_end {T P : List Tr} {K out : List Int} {m : Nat} (h : Shl T out) (hm : HasP T out m) : bestR T P K out m (3 * T.length) = (recsM T P K out m).map some := by
  apply List.ext_getElem?
  intro n
  by_cases hn : n < m
  · have h1 := bestK_at (rw_ := rowC T P K) (out := out) (m := m) (k := 3 * T.length) (fun c hc => h.nn (c / 3) (by omega)) hn
    rw [bestR_get hn]
    simp only [List.getD, h1, Option.getD_some, (bestC_ok (P := P) (K := K) hm hn).1]
    simp [recsM, hn]
  · rw [List.getElem?_eq_none (by rw [bestR_len]; omega), List.getElem?_eq_none (by simp [recsM]; omega)]
theorem cntF_ge {out : List Int} : ∀ (k : Nat), k ≤ out.length → ∀ j, j < k → at_ out j + 1 ≤ cntL (out.take k)
  | 0, _, j, hj => by omega
  | k + 1, hk, j, hj => by
    rw [cntL_take (j := k) (out := out) (by omega)]
    by_cases e : j = k
    · subst e
      omega
    · have := cntF_ge (out := out) k (by omega) j (by omega)
      omega
theorem cntF_lt {out : List Int} {j : Nat} (hj : j < out.length) : at_ out j < cntL out := by
  have := cntF_ge out.length (Nat.le_refl _) j hj
  rw [List.take_length] at this
  omega
theorem below_dnF {B : Nat} {w a : World} (h : Below B w a) (n : Nat) : Below B w (a.drewN n) := ⟨h.os, h.tape, h.output, h.size, h.block⟩
theorem StF.drewN {w1 W : World} {b : Nat} {vO : Value} {out : List Int} {l : List (Option RecM)} (h : StF w1 W b vO out l) (n : Nat) : StF w1 (W.drewN n) b vO out l := h.below (below_dnF (Below.refl _ _) n)
theorem StF.getN {w1 W : World} {b n : Nat} {vO : Value} {out : List Int} {l : List (Option RecM)} (h : StF w1 W b vO out l) (hn : l[n]? = some none) : W.cell? ⟨b, n * 6, none⟩ = some (.slice none 0 0) := (h.get hn).2.2
theorem StF.getS {w1 W : World} {b n : Nat} {vO : Value} {out : List Int} {l : List (Option RecM)} {r : RecM} (h : StF w1 W b vO out l) (hn : l[n]? = some (some r)) : ∃ a c, W.cell? ⟨b, n * 6, none⟩ = some (.slice a r.row.length c) ∧ W.ownsRow w1.heap.size 3 1 (.slice a r.row.length c) r.row.length (intsV r.row) := (h.get hn).2.2
theorem RecOwn.row {w : World} {base : Nat} {vR vT vP vK vO : Value} {n : Int} {r : RecM} (h : RecOwn w base #[vR, .int .i64 n, vT, vP, vK, vO] r) : w.ownsRow base 3 1 vR r.row.length (intsV r.row) := by
  obtain ⟨a, b, c, d, e, h0, h1, -⟩ := h
  have : vR = a := by simpa using congrArg (fun x : Array Value => x[0]!) h0
  rw [this]
  exact h1
theorem from_row (T P : List Tr) (K : List Int) {c : Nat} (hc : c < 3 * T.length) : 2 ≤ (fromM T P K c).row.length ∧ (fromM T P K c).row.length ≤ 2 + 15 * T.length := by
  obtain ⟨a, b, d, e, f⟩ := from_len T P K hc
  have h2 := (rtN_lens hc).2.1
  have : (fromM T P K c).row.length = 2 + 3 * (fromM T P K c).T.length + (3 * (fromM T P K c).P.length + (fromM T P K c).K.length) := by
    unfold RecM.row
    rw [List.length_append, rowM_len, List.length_append, flatT_length]
  omega
theorem bestK_lt {rw_ : Nat → List Int} {out : List Int} {m k n d : Nat} (h : (bestK rw_ out m k).getD n none = some d) : d < k := by
  induction k with
  | zero =>
    unfold bestK at h
    simp only [List.range_zero, List.foldl_nil, List.getD] at h
    rw [List.getElem?_replicate] at h
    split at h <;> simp at h
  | succ k ih =>
    rw [bestK_succ] at h
    unfold bestS at h
    rw [List.getD, List.getElem?_set] at h
    split at h
    · rename_i he
      split at h
      · simp only [Option.getD_some] at h
        unfold pickC at h
        split at h
        · injection h with h
          omega
        · rename_i d' hd'
          split at h
          · injection h with h
            omega
          · injection h with h
            subst h
            rw [he] at hd'
            have := ih hd'
            omega
      · simp at h
    · have := ih (by rw [List.getD]; exact h)
      omega
theorem ws3_app (a b : List Tr) : ws3 (a ++ b) = ws3 a ++ ws3 b := by simp [ws3, flatT]
theorem ws3_one (l : List Tr) : ∀ y ∈ ws3 l, y.oneCell' = true := by
  intro y hy
  unfold ws3 at hy
  rw [List.mem_map] at hy
  obtain ⟨t, -, rfl⟩ := hy
  rfl
theorem intsV_app9 (a b : List Int) : intsV (a ++ b) = intsV a ++ intsV b := by simp [intsV]
theorem intsV_one9 (l : List Int) : ∀ y ∈ intsV l, y.oneCell' = true := by
  intro y hy
  unfold intsV at hy
  rw [List.mem_map] at hy
  obtain ⟨t, -, rfl⟩ := hy
  rfl
theorem rec_cell {W : World} {b : Nat} {ys : List RcV} (h : Blk W b 142 (ys.flatMap RcV.enc).toArray) {k : Nat} {y : RcV} (hy : ys[k]? = some y) : ∀ i, i < 6 → W.cell? ⟨b, k * 6 + i, none⟩ = some (y.enc)[i]! := by
  intro i hi
  haveI : Inhabited RcV := ⟨y⟩
  have hl : k < ys.length := (List.getElem?_eq_some_iff.1 hy).1
  rw [h.cell]
  rw [List.getElem?_toArray, flatMap_at enc_len (by decide) ys (k * 6 + i) (by omega)]
  have e1 : (k * 6 + i) / 6 = k := by omega
  have e2 : (k * 6 + i) % 6 = i := by omega
  rw [e1, e2, getElem!_pos ys k hl]
  rw [List.getElem?_eq_getElem hl] at hy
  rw [Option.some.inj hy]
theorem fourG {w : World} {b : Nat} {t : TypeId} {x0 x1 x2 x3 : Value} (h : Blk w b t #[x0, x1, x2, x3]) : b < w.heap.size ∧ w.cell? ⟨b, 0, none⟩ = some x0 ∧ w.frozen? ⟨b, 0, none⟩ = false ∧ w.cell? ⟨b, 1, none⟩ = some x1 ∧ w.frozen? ⟨b, 1, none⟩ = false ∧ w.cell? ⟨b, 2, none⟩ = some x2 ∧ w.frozen? ⟨b, 2, none⟩ = false ∧ w.cell? ⟨b, 3, none⟩ = some x3 ∧ w.frozen? ⟨b, 3, none⟩ = false :=
  ⟨h.lt, h.cell 0, h.frozen 0, h.cell 1, h.frozen 1, h.cell 2, h.frozen 2, h.cell 3, h.frozen 3⟩
section
variable {w w0 : World} {b : Nat} {t : TypeId} {x0 x1 x2 x3 : Value} (y0 y1 y2 y3 : Value)
def set2 (w : World) (b : Nat) (y0 y1 : Value) : World := (w.setCell ⟨b, 0, none⟩ y0).setCell ⟨b, 1, none⟩ y1
def set4 (w : World) (b : Nat) (y0 y1 y2 y3 : Value) : World := (((w.setCell ⟨b, 0, none⟩ y0).setCell ⟨b, 1, none⟩ y1).setCell ⟨b, 2, none⟩ y2).setCell ⟨b, 3, none⟩ y3
theorem blk_set2 (h : Blk w b t #[x0, x1, x2, x3]) : Blk (set2 w b y0 y1) b t #[y0, y1, x2, x3] := by
  have := (h.set_ 0 y0).set_ 1 y1
  simpa [set2] using this
theorem blk_set4 (h : Blk w b t #[x0, x1, x2, x3]) : Blk (set4 w b y0 y1 y2 y3) b t #[y0, y1, y2, y3] := by
  have := (((h.set_ 0 y0).set_ 1 y1).set_ 2 y2).set_ 3 y3
  simpa [set4] using this
theorem own_set2 {base n s : Nat} {e : TypeId} {v : Value} {xs : List Value} {cs : Array Value} (hr : w.ownsRow base e s v n xs) (h : Blk w b t cs) (hne : e ≠ t) : (set2 w b y0 y1).ownsRow base e s v n xs :=
  own_alloc_st (own_alloc_st hr h hne) (h.set_ 0 y0) hne
theorem own_set4 {base n s : Nat} {e : TypeId} {v : Value} {xs : List Value} {cs : Array Value} (hr : w.ownsRow base e s v n xs) (h : Blk w b t cs) (hne : e ≠ t) : (set4 w b y0 y1 y2 y3).ownsRow base e s v n xs :=
  own_alloc_st (own_alloc_st (own_alloc_st (own_alloc_st hr h hne) (h.set_ 0 y0) hne) ((h.set_ 0 y0).set_ 1 y1) hne) (((h.set_ 0 y0).set_ 1 y1).set_ 2 y2) hne
theorem below_set2 {B : Nat} (h : Below B w0 w) (hb : B ≤ b) : Below B w0 (set2 w b y0 y1) :=
  (h.setCell (p := ⟨b, 0, none⟩) hb y0).setCell (p := ⟨b, 1, none⟩) hb y1
theorem below_set4 {B : Nat} (h : Below B w0 w) (hb : B ≤ b) : Below B w0 (set4 w b y0 y1 y2 y3) :=
  (((h.setCell (p := ⟨b, 0, none⟩) hb y0).setCell (p := ⟨b, 1, none⟩) hb y1).setCell (p := ⟨b, 2, none⟩) hb y2).setCell (p := ⟨b, 3, none⟩) hb y3
theorem far_set2 {g : Nat} {u : TypeId} {cs : Array Value} (h : Blk w g u cs) (hne : g ≠ b) : Blk (set2 w b y0 y1) g u cs :=
  (h.far (p := ⟨b, 0, none⟩) hne y0).far (p := ⟨b, 1, none⟩) hne y1
end
theorem rc_fields {w : World} {base : Nat} {y : RcV} (h : RecOwn w base y.enc.toArray y.m) : y.N = y.m.N ∧ w.ownsRow base 61 3 y.vT y.m.T.length (ws3 y.m.T) := by
  obtain ⟨yR, yN, yT, yP, yK, yO, r⟩ := y
  obtain ⟨vR, vT2, vP2, vK2, vO2, e, g1, g2, g3, g4, g5⟩ := h
  dsimp only [RcV.enc] at e g2
  have e2 : [yR, .int .i64 yN, yT, yP, yK, yO] = [vR, .int .i64 r.N, vT2, vP2, vK2, vO2] := by simpa using congrArg Array.toList e
  simp only [List.cons.injEq, Value.int.injEq, true_and, and_true] at e2
  obtain ⟨rfl, rfl, rfl, rfl, rfl, rfl⟩ := e2
  exact ⟨rfl, g2⟩
theorem soups_rd {w5 W : World} {base bx : Nat} {ys : List RcV} {S : List RecM} {P : List Tr} {K O : List Int} {vA vP vK vO : Value} (hA : AcF w5 W bx ys P K O vA vP vK vO) (hys : ys.map (·.m) = S) (hyr : ∀ x ∈ ys, RecOwn w5 base x.enc.toArray x.m) : SoupsRd W vA (soupsM S) := by
  obtain ⟨aA, cA, rfl⟩ := ownsRow_slice hA.rA
  have hl : (soupsM S).length = ys.length := by rw [← hys]; simp [soupsM]
  refine ⟨aA, cA, by rw [hl], fun k N T hk => ?_⟩
  have hky : k < ys.length := by
    have := (List.getElem?_eq_some_iff.1 hk).1
    omega
  obtain ⟨y, hy⟩ : ∃ y, ys[k]? = some y := ⟨ys[k], List.getElem?_eq_getElem hky⟩
  obtain ⟨hN, hT⟩ := rc_fields (hyr y (List.mem_of_getElem? hy))
  have e : (N, T) = (y.m.N, y.m.T) := by
    rw [← hys] at hk
    unfold soupsM at hk
    rw [List.map_map, List.getElem?_map, hy] at hk
    exact (Option.some.inj hk).symm
  injection e with e1 e2
  subst e1
  subst e2
  obtain ⟨gA, capA, eA, -, hgl⟩ := hA.rA.form (by omega)
  cases eA
  haveI : Inhabited RcV := ⟨y⟩
  have hc : ∀ i, i < 2 → W.cell? ⟨gA, k * 2 + i, none⟩ = some ([Value.int .i64 y.N, y.vT][i]!) := by
    intro i hi
    rw [hA.rA.cellAt (k * 2 + i) (by omega), flatMap_at (k := 2) (enc := fun x : RcV => [Value.int .i64 x.N, x.vT]) (fun _ => rfl) (by decide) ys (k * 2 + i) (by omega)]
    have e1 : (k * 2 + i) / 2 = k := by omega
    have e2 : (k * 2 + i) % 2 = i := by omega
    rw [e1, e2, getElem!_pos ys k hky]
    rw [List.getElem?_eq_getElem hky] at hy
    rw [Option.some.inj hy]
  have h0 := hc 0 (by decide)
  have h1 := hc 1 (by decide)
  rw [← hN]
  exact ⟨gA, 0, y.vT, rfl, hgl, by rw [Nat.zero_add]; exact h0, by rw [Nat.zero_add]; exact h1, TrisRd.of_row (own_below hT hA.bel)⟩
set_option maxRecDepth 100000 in
set_option maxHeartbeats 4000000 in
theorem formG_any (N : Int) (T P : List Tr) (K : List Int) (vT vP vK : Value) (w : World) (hS : Surf N T) (hTr : TrisRd w vT T) (hP : TrisRd w vP P) (hK : IntsRd w vK K) (hPl : P ≠ [] → (P.length : Int) = N) (hKl : K ≠ [] → K.length = 3 * T.length) (h60 : N ≤ 60 ∨ T.length < 40) (hl : T.length ≤ 1000) :
    Calls Try.prog 53 #[.agg #[.int .i64 N, vT, vP, vK]] w fun e w' => ∃ (out : List Int) (m : Nat) (vT' vP' vK' vO' : Value), Shl T out ∧ (m : Int) = cntL out ∧ e = .returned (.tuple #[.agg #[.int .i64 (joinM (soupsM (sortM T P K out m))).1, vT', vP', vK'], vO']) ∧
      w'.ownsRow w.heap.size 61 3 vT' (joinM (soupsM (sortM T P K out m))).2.length (ws3 (joinM (soupsM (sortM T P K out m))).2) ∧
      w'.ownsRow w.heap.size 162 3 vP' ((sortM T P K out m).flatMap (·.P)).length (ws3 ((sortM T P K out m).flatMap (·.P))) ∧
      w'.ownsRow w.heap.size 3 1 vK' ((sortM T P K out m).flatMap (·.K)).length (intsV ((sortM T P K out m).flatMap (·.K))) ∧
      w'.ownsRow w.heap.size 3 1 vO' ((sortM T P K out m).flatMap (·.old)).length (intsV ((sortM T P K out m).flatMap (·.old))) ∧ Below w.heap.size w w' := by
  obtain ⟨iR, hR, hr0, hr1, hr2⟩ := info_parts infoRc
  obtain ⟨F, hF⟩ : ∃ F, T.length = F := ⟨_, rfl⟩
  have hB0 : Below w.heap.size w ((w.alloc (.cells #[.int .i64 N, vT, vP, vK] 98)).alloc (.cells #[.int .i64 0, .slice none 0 0, .slice none 0 0, .slice none 0 0] 98)) := ((Below.refl _ _).alloc (Nat.le_refl _) _).alloc (by simp) _
  have hb1 := (Blk.new w 98 #[.int .i64 N, vT, vP, vK]).alloc (.cells #[.int .i64 0, .slice none 0 0, .slice none 0 0, .slice none 0 0] 98)
  have hb2 : Blk ((w.alloc (.cells #[.int .i64 N, vT, vP, vK] 98)).alloc (.cells #[.int .i64 0, .slice none 0 0, .slice none 0 0, .slice none 0 0] 98)) (w.heap.size + 1) 98 #[.int .i64 0, .slice none 0 0, .slice none 0 0, .slice none 0 0] := blk_new_at (by simp)
  have HPr := Lib.hid (fun (W : World) (hW : Below w.heap.size w W) => hP.below hW)
  have HKr := Lib.hid (fun (W : World) (hW : Below w.heap.size w W) => hK.below hW)
  have HN := Lib.hid (new_any N vT T _ (hTr.below hB0) (by omega))
  obtain ⟨aT, cT, rfl, -⟩ := hTr
  have HF := Lib.hid hF
  rw [hF] at HN hl hKl hB0 hb1 hb2 ⊢
  obtain ⟨l1, x0, x1, x2, x3⟩ := fourF hb1
  have HB0 := Lib.hid hB0
  have HB1 := Lib.hid hb1
  have HB2 := Lib.hid hb2
  have HS := Lib.hid hS
  clear hB0 hb1 hb2 hP hK
  go_enter Try.func53, Try.ntmps53
  go_upto_region 2 with (go_at_call 22; go_loud (refine HN.out.mono ?_; rintro e w1 ⟨⟨-, g, rfl, hTab, hg⟩ | ⟨hno, -⟩, hbN⟩; rotate_left; exact absurd HS.out hno; unfold witV))
  have hTab1 := hTab.below ((Below.refl w1.heap.size w1).alloc (Nat.le_refl _) (.cells #[.int .i64 0, .int .i64 0, .int .i64 0] 44))
  have hbW := HB0.out.trans ((hbN.alloc hbN.size (.cells #[.int .i64 0, .int .i64 0, .int .i64 0] 44)).mono HB0.out.size)
  have HB1' := Lib.hid ((HB1.out.below hbN HB1.out.lt).alloc (.cells #[.int .i64 0, .int .i64 0, .int .i64 0] 44))
  have HB2' := Lib.hid ((HB2.out.below hbN HB2.out.lt).alloc (.cells #[.int .i64 0, .int .i64 0, .int .i64 0] 44))
  clear hTab hg hbN x0 x1 x2 x3 l1
  generalize w1.alloc (.cells #[.int .i64 0, .int .i64 0, .int .i64 0] 44) = W1 at *
  have HT := Lib.hid (fun (W : World) (hW : Below W1.heap.size W1 W) => hTab1.below hW)
  have HBW := Lib.hid hbW
  have HC := Lib.hid (count_any g N T W1 hTab1 HS.out.twice)
  have hsz1 := hbW.size
  clear hTab1 hbW
  go_upto_region 3 with (first
    | (go_at_call 46; go_loud (refine HC.out.mono ?_; rintro e w2 ⟨out, rfl, hsh, hlt, hb2⟩; obtain ⟨m, hm⟩ : ∃ m : Nat, cntL out = (m : Int) := ⟨(cntL out).toNat, by have := (cntL_bd (out := out) (m := (T.length : Int)) (fun j hj => by have := hlt j (by rw [← hsh.len]; exact hj); omega) (by omega) out.length (Nat.le_refl _)).1; rw [List.take_length] at this; omega⟩; rw [hm]; have hmP := hsh.hasP hm.symm; have hm20 : m < 40 := (by have h1 := hmP.le HS.out hsh; have h2 := HS.out.n0; have h3 := (cntL_bd (out := out) (m := (T.length : Int)) (fun j hj => by have := hlt j (by rw [← hsh.len]; exact hj); omega) (by omega) out.length (Nat.le_refl _)).2; rw [List.take_length] at h3; omega)))
    | (at_make; refine wpList_make_full _ rfl (.tmp 23) (.tmp 23) 140 rfl W1.heap.size 142 iR _ 6 Try.underlying140 hR hr0 hr1 .i64 .i64 _ _ m rfl rfl rfl rfl (by rw [hr2]; omega) (by unfold maxLen; omega) hb2.size ?_; intro w3 hr3 hg3))
  have hb3 := hb2.grown hg3 hb2.size (fun j e => by cases e)
  rw [made_rc] at hr3
  have HOf := Lib.hid (of_any g N T w3 (HT.out w3 hb3) HS.out.twice)
  have Hsh := Lib.hid hsh
  have HmP := Lib.hid hmP
  have Hm := Lib.hid hm
  have hz23 := hg3.size
  clear hlt hsh hmP hm hg3
  go_wp2_with (go_at_call 45; go_loud (refine HOf.out.mono ?_; rintro e w4 ⟨vO, out', rfl, hro, hsh', -, hb4⟩; rw [Shl.one hsh' Hsh.out, HF.out] at hro; obtain ⟨aO, cO, rfl⟩ := ownsRow_slice hro; clear hsh'))
  generalize hbb : w2.heap.size = b at *
  have HI0 := Lib.hid (show StF W1 w4 b (.slice aO F cO) out (bestR T P K out m (3 * 0)) from by
    rw [Nat.mul_zero, bestR_zero]
    have hol : out.length = F := by rw [Hsh.out.len, HF.out]
    refine StF.first (own_below hr3 hb4) ?_ (hb3.trans (hb4.mono hb3.size))
    rw [hol]
    exact own_lower hro hb3.size)
  clear hr3 hb3 hro hb4 hb2 hbb hz23
  go_loopw [28] (fun i wr => ∃ k : Nat, k ≤ F ∧ i = .int .i64 k ∧ StF W1 wr b (.slice aO F cO) out (bestR T P K out m (3 * k))) (fun i _ => F - (intOf i).toNat)
  case atStart => exact ⟨0, Nat.zero_le _, rfl, HI0.out⟩
  case round =>
    rename World => wr
    obtain ⟨k, hk, rfl, hI⟩ := hrel
    by_cases hlt : k < F
    · have hro := hI.row
      have hol : out.length = F := by rw [Hsh.out.len, HF.out]
      rw [hol] at hro
      obtain ⟨gO, capO, eO, -, -⟩ := hro.form (by omega)
      cases eO
      obtain ⟨n, hn⟩ : ∃ n : Nat, at_ out k = (n : Int) := ⟨(at_ out k).toNat, by have := Hsh.out.nn k (by rw [HF.out]; exact hlt); omega⟩
      have hnm : n < m := by have := cntF_lt (out := out) (j := k) (by omega); rw [Hm.out, hn] at this; omega
      have hcO : wr.cell? ⟨gO, k, none⟩ = some (.int .i64 (n : Int)) := by
        rw [hro.cellAt k (by omega), intsV_at (by omega), hn]
      have HI := Lib.hid hI
      have Hn := Lib.hid hn
      have hki : (k : Int) < (F : Int) := by omega
      have hlk : (k : Int) ≤ 1000 := by omega
      clear hI hro hn hol
      go_wp2
      go_loopw [9] (fun i wx => ∃ j : Nat, j ≤ 3 ∧ i = .int .i64 ((3 * k + j : Nat) : Int) ∧ StF W1 wx b (.slice (some ⟨gO, 0, none⟩) F cO) out (bestR T P K out m (3 * k + j))) (fun i _ => 3 * k + 3 - (intOf i).toNat)
      case atStart => exact ⟨0, by omega, by go_num, HI.out⟩
      case round =>
        rename World => wx
        obtain ⟨j, hj, rfl, hI'⟩ := hrel
        by_cases hj3 : j < 3
        · have hc3 : (3 * k + j) / 3 = k := by omega
          obtain ⟨c, hc⟩ : ∃ c, 3 * k + j = c := ⟨_, rfl⟩
          rw [hc] at hI' hc3 ⊢
          have hcF : c < 3 * T.length := by rw [HF.out]; omega
          have hcc : (c : Int) < 3 * (k : Int) + 3 := by omega
          have hlc : (c : Int) ≤ 3003 := by omega
          have hat : at_ out (c / 3) = (n : Int) := by rw [hc3]; exact Hn.out
          obtain ⟨l1, x0, x1, x2, x3⟩ := fourF (HB1'.out.below hI'.bel HB1'.out.lt)
          have HFr := Lib.hid (from_any g N T wx c N (.slice aT F cT) vP vK P K ⟨_, _, _, rfl⟩ (HPr.out wx (HBW.out.trans (hI'.bel.mono HBW.out.size))) (HKr.out wx (HBW.out.trans (hI'.bel.mono HBW.out.size))) (HT.out wx hI'.bel) hcF hPl (fun h => by rw [HF.out]; exact hKl h))
          have HI' := Lib.hid hI'
          have Hc := Lib.hid hc
          have hz9 := hI'.bel.size
          have Hat := Lib.hid hat
          clear hI' hc hcF hc3 hat
          obtain ⟨r, hr⟩ : ∃ r, fromM T P K c = r := ⟨_, rfl⟩
          rw [hr] at HFr
          have HR := Lib.hid hr
          have hrl := from_row T P K (c := c) (by rw [HF.out]; have := Hc.out; omega)
          rw [hr, HF.out] at hrl
          clear hr
          go_upto_region 10 with (go_at_call 84; go_loud (refine HFr.out.mono ?_; rintro e wF ⟨cs, rfl, ⟨vR, vT2, vP2, vK2, vO2, rfl, hrec⟩, hbF⟩; obtain ⟨aR, cR, rfl⟩ := ownsRow_slice hrec.1; obtain ⟨aT2, cT2, rfl⟩ := ownsRow_slice hrec.2.1; obtain ⟨aP2, cP2, rfl⟩ := ownsRow_slice hrec.2.2.1; obtain ⟨aK2, cK2, rfl⟩ := ownsRow_slice hrec.2.2.2.1; obtain ⟨aO2, cO2, rfl⟩ := ownsRow_slice hrec.2.2.2.2))
          have hrcF : RecOwn wF wx.heap.size #[.slice aR r.row.length cR, .int .i64 r.N, .slice aT2 r.T.length cT2, .slice aP2 r.P.length cP2, .slice aK2 r.K.length cK2, .slice aO2 r.old.length cO2] r := ⟨_, _, _, _, _, rfl, hrec⟩
          have hbA := (Below.refl wF.heap.size wF).alloc (Nat.le_refl _) (.cells #[.slice aR r.row.length cR, .int .i64 r.N, .slice aT2 r.T.length cT2, .slice aP2 r.P.length cP2, .slice aK2 r.K.length cK2, .slice aO2 r.old.length cO2] 142)
          have HRc := Lib.hid ((hrcF.below hbA).lower hz9)
          have hIA := (HI'.out.below hbF).below hbA
          have HIA := Lib.hid hIA
          have bq := Blk.new wF 142 #[.slice aR r.row.length cR, .int .i64 r.N, .slice aT2 r.T.length cT2, .slice aP2 r.P.length cP2, .slice aK2 r.K.length cK2, .slice aO2 r.old.length cO2]
          obtain ⟨lq, y0, g0, y1, g1, y2, g2, y3, g3, y4, g4, y5, g5⟩ := sixF bq
          have hget := hIA.get (bestR_get (T := T) (P := P) (K := K) (out := out) (m := m) (k := c) hnm)
          generalize hWA : wF.alloc (.cells #[.slice aR r.row.length cR, .int .i64 r.N, .slice aT2 r.T.length cT2, .slice aP2 r.P.length cP2, .slice aK2 r.K.length cK2, .slice aO2 r.old.length cO2] 142) = wA at *
          obtain ⟨hfz, hcl, -⟩ := hget
          generalize wF.heap.size = q at *
          clear hrec hrcF hbA hIA bq x0 x1 x2 x3 l1 hWA hbF
          have hni : (n : Int) < (m : Int) := by omega
          have hrI := IntsRd.of_row HRc.out.row rfl
          cases ho : (bestK (rowC T P K) out m c).getD n none with
          | none =>
            have z0 := HIA.out.getN (n := n) (by rw [bestR_get hnm, ho]; rfl)
            have HPut := Lib.hid (show bestR T P K out m (c + 1) = (bestR T P K out m c).set n (some r) from by rw [bestR_put Hat.out (by rw [ho]; rfl), HR.out])
            clear ho hrI
            have q0 := hfz (n * 6)
            have q1 := hfz (n * 6 + 1)
            have q2 := hfz (n * 6 + 2)
            have q3 := hfz (n * 6 + 3)
            have q4 := hfz (n * 6 + 4)
            have q5 := hfz (n * 6 + 5)
            obtain ⟨u1, z1⟩ := hcl 1 (by decide)
            obtain ⟨u2, z2⟩ := hcl 2 (by decide)
            obtain ⟨u3, z3⟩ := hcl 3 (by decide)
            obtain ⟨u4, z4⟩ := hcl 4 (by decide)
            obtain ⟨u5, z5⟩ := hcl 5 (by decide)
            clear hfz hcl
            go_quiet (fail)
            have h9 := (HIA.out.drewN nq).put (n := n) (x := ⟨.slice aR r.row.length cR, r.N, .slice aT2 r.T.length cT2, .slice aP2 r.P.length cP2, .slice aK2 r.K.length cK2, .slice aO2 r.old.length cO2, r⟩) (by rw [bestR_len]; exact hnm) (HRc.out.below (below_dnF (Below.refl _ _) nq))
            unfold set6a at h9
            have HIN := Lib.hid h9
            clear h9
            go_wp2
            go_roundw
            case measure => simp [intOf]; have := Hc.out; omega
            case rel => exact ⟨j + 1, by omega, by rw [show 3 * k + (j + 1) = c + 1 from by have := Hc.out; omega]; go_num, by rw [show 3 * k + (j + 1) = c + 1 from by have := Hc.out; omega, HPut.out]; exact HIN.out⟩
          | some d =>
            obtain ⟨a', c', z0, hrow'⟩ := HIA.out.getS (n := n) (r := fromM T P K d) (by rw [bestR_get hnm, ho]; rfl)
            obtain ⟨row', hrw⟩ : ∃ row', (fromM T P K d).row = row' := ⟨_, rfl⟩
            have hd3 := bestK_lt (rw_ := rowC T P K) (out := out) (m := m) (k := c) (n := n) (d := d) ho
            have hl2 := (from_row T P K (c := d) (by rw [HF.out]; have := Hc.out; omega)).1
            rw [hrw] at z0 hrow' hl2
            have hrI' := IntsRd.of_row hrow' rfl
            obtain ⟨L', hL'⟩ : ∃ L', row'.length = L' := ⟨_, rfl⟩
            have HCmp := Lib.hid (fun (x : Nat) => compareL_any _ _ r.row row' (wA.drewN x) (hrI.below (below_dnF (Below.refl _ _) x)) (hrI'.below (below_dnF (Below.refl _ _) x)))
            rw [hL'] at z0 hl2 HCmp
            have hd0 : ((L' : Int) == 0) = false := by simp; omega
            have hpk : pickC (rowC T P K) (some d) c = if cmpL r.row row' < 0 then some c else some d := by
              show (if cmpL (fromM T P K c).row (fromM T P K d).row < 0 then some c else some d) = _
              rw [HR.out, hrw]
            by_cases hlt2 : cmpL r.row row' < 0
            · have hdc : decide (cmpL r.row row' < 0) = true := by simpa using hlt2
              have HPut := Lib.hid (show bestR T P K out m (c + 1) = (bestR T P K out m c).set n (some r) from by rw [bestR_put Hat.out (by rw [ho, hpk, if_pos hlt2]), HR.out])
              clear ho hrI hrI' hrow' hpk hlt2 hrw hL'
              generalize cmpL r.row row' = cm at *
              have q0 := hfz (n * 6)
              have q1 := hfz (n * 6 + 1)
              have q2 := hfz (n * 6 + 2)
              have q3 := hfz (n * 6 + 3)
              have q4 := hfz (n * 6 + 4)
              have q5 := hfz (n * 6 + 5)
              obtain ⟨u1, z1⟩ := hcl 1 (by decide)
              obtain ⟨u2, z2⟩ := hcl 2 (by decide)
              obtain ⟨u3, z3⟩ := hcl 3 (by decide)
              obtain ⟨u4, z4⟩ := hcl 4 (by decide)
              obtain ⟨u5, z5⟩ := hcl 5 (by decide)
              clear hfz hcl
              go_quiet ((go_at_call 60; exact Calls.quiet_of_same (HCmp.out _)))
              have h9 := (HIA.out.drewN nq).put (n := n) (x := ⟨.slice aR r.row.length cR, r.N, .slice aT2 r.T.length cT2, .slice aP2 r.P.length cP2, .slice aK2 r.K.length cK2, .slice aO2 r.old.length cO2, r⟩) (by rw [bestR_len]; exact hnm) (HRc.out.below (below_dnF (Below.refl _ _) nq))
              unfold set6a at h9
              have HIN := Lib.hid h9
              clear h9
              go_wp2
              go_roundw
              case measure => simp [intOf]; have := Hc.out; omega
              case rel => exact ⟨j + 1, by omega, by rw [show 3 * k + (j + 1) = c + 1 from by have := Hc.out; omega]; go_num, by rw [show 3 * k + (j + 1) = c + 1 from by have := Hc.out; omega, HPut.out]; exact HIN.out⟩
            · have hdc : decide (cmpL r.row row' < 0) = false := by simpa using hlt2
              have HKp := Lib.hid (show bestR T P K out m (c + 1) = bestR T P K out m c from bestR_keep Hat.out (by rw [ho, hpk, if_neg hlt2]))
              clear ho hrI hrI' hrow' hpk hlt2 hrw hL' hfz hcl
              generalize cmpL r.row row' = cm at *
              go_quiet ((go_at_call 60; exact Calls.quiet_of_same (HCmp.out _)))
              have HIN := Lib.hid (HIA.out.drewN nq)
              go_wp2
              go_roundw
              case measure => simp [intOf]; have := Hc.out; omega
              case rel => exact ⟨j + 1, by omega, by rw [show 3 * k + (j + 1) = c + 1 from by have := Hc.out; omega]; go_num, by rw [show 3 * k + (j + 1) = c + 1 from by have := Hc.out; omega, HKp.out]; exact HIN.out⟩
        · obtain rfl : j = 3 := by omega
          have HI' := Lib.hid (show StF W1 wx b (.slice (some ⟨gO, 0, none⟩) F cO) out (bestR T P K out m (3 * (k + 1))) from hI')
          clear hI'
          go_wp2
          go_roundw
          case measure => simp [intOf]; omega
          case rel => exact ⟨k + 1, by omega, by go_num, HI'.out⟩
    · obtain rfl : F = k := by omega
      have hlen : (recsM T P K out m).length = m := by simp [recsM]
      have hRs := hI.all (rs := recsM T P K out m) (by rw [← HF.out]; exact bestR_end Hsh.out HmP.out) (by rw [hlen]; unfold maxLen; omega)
      have hSt : Calls Try.prog 85 #[.slice (some ⟨b, 0, none⟩) m m, .func (.func 86) #[] #[]] wr fun e w' => e = .returned (.tuple #[]) ∧ Recs w' W1.heap.size b (sortM T P K out m) ∧ wr.grownBy w' (some b) := by
        by_cases h0 : 0 < m
        · have hrw : ∀ r ∈ recsM T P K out m, r.row.length ≤ 1000000 := ?_
          · by_cases h20 : m ≤ 20
            · exact stable_any wr W1.heap.size b m _ hRs hlen h20 h0 hrw
            · exact stable2_any wr W1.heap.size b m _ hRs hlen (by omega) hm20 hrw
          intro r hr
          obtain ⟨n, hn, rfl⟩ := List.mem_map.1 hr
          have := (from_row T P K (bestC_ok (P := P) (K := K) HmP.out (List.mem_range.1 hn)).2.1).2
          rw [HF.out] at this
          omega
        · obtain rfl : m = 0 := by omega
          refine (stable_none _ _ wr).mono ?_
          rintro e w' ⟨rfl, rfl⟩
          exact ⟨rfl, hRs, World.grownBy.refl _ _⟩
      have HSt := Lib.hid hSt
      have HB := Lib.hid (And.intro hI.bel hI.le)
      clear hI hRs hSt hlen
      go_upto_region 14 with (go_at_call 85; go_loud (refine HSt.out.mono ?_; rintro e w5 ⟨rfl, hrs5, hg5⟩))
      have HB5 := Lib.hid (HB.out.1.grown hg5 HB.out.1.size (fun j e => by cases e; exact HB.out.2))
      obtain ⟨hbb, -, ys, hys, hyr, hyB⟩ := hrs5
      have HSl := Lib.hid (sort_len T P K out m)
      have HSf := Lib.hid (And.intro (sort_fits (P := P) (K := K) HS.out.simple (by rw [HF.out]; exact hl) HmP.out) (soups_bd (P := P) (K := K) Hsh.out HmP.out))
      have HfP := Lib.hid (flat_P (P := P) (K := K) Hsh.out HmP.out)
      have HfK := Lib.hid (flat_K (P := P) (K := K) Hsh.out HmP.out)
      have HfO := Lib.hid (flat_O (P := P) (K := K) Hsh.out HmP.out)
      rw [HF.out] at HSf HfP HfK HfO
      generalize hS5 : sortM T P K out m = S at *
      have HS5 := Lib.hid hS5
      clear hS5
      have hyl : ys.length = m := by rw [← HSl.out, ← hys]; simp
      have HY := Lib.hid (And.intro hys (And.intro hyr hyB))
      have hz5 := HB5.out.size
      have hyB5 := hyB.lt
      clear hg5 hys hyr hyB HI0
      obtain ⟨i2, hj2, b20, b21, b22⟩ := info_parts infoInt
      obtain ⟨i3, hj3, b30, b31, b32⟩ := info_parts infoPt
      obtain ⟨i4, hj4, b40, b41, b42⟩ := info_parts infoSoup
      have HA0 := Lib.hid (show AcF w5 (w5.alloc (.cells #[.int .i64 0, .slice none 0 0, .slice none 0 0, .slice none 0 0] 98)) w5.heap.size (ys.take 0) ((S.take 0).flatMap (·.P)) ((S.take 0).flatMap (·.K)) ((S.take 0).flatMap (·.old)) (.slice none 0 0) (.slice none 0 0) (.slice none 0 0) (.slice none 0 0) from
        ⟨Blk.new w5 _ _, World.ownsRow_nil _ _ _ _, World.ownsRow_nil _ _ _ _, World.ownsRow_nil _ _ _ _, World.ownsRow_nil _ _ _ _, fun j e => by simp [Value.ownBlock] at e, (Below.refl _ _).alloc (Nat.le_refl _) _, Nat.le_refl _⟩)
      go_wp2
      go_loopw [12, 13, 73] (fun vO vA i wy => ∃ k : Nat, k ≤ m ∧ i = .int .i64 k ∧ ∃ vP vK, AcF w5 wy w5.heap.size (ys.take k) ((S.take k).flatMap (·.P)) ((S.take k).flatMap (·.K)) ((S.take k).flatMap (·.old)) vA vP vK vO) (fun _ _ i _ => m - (intOf i).toNat)
      case atStart => exact ⟨0, Nat.zero_le _, rfl, _, _, HA0.out⟩
      case round =>
        rename World => wy
        obtain ⟨k, hk, rfl, vP', vK', hA⟩ := hrel
        by_cases hkm : k < m
        · have hky : k < ys.length := by omega
          obtain ⟨y, hy⟩ : ∃ y, ys[k]? = some y := ⟨ys[k], List.getElem?_eq_getElem hky⟩
          have hSk : S[k]? = some y.m := by rw [← HY.out.1, List.getElem?_map, hy]; rfl
          have hrec := HY.out.2.1 y (List.mem_of_getElem? hy)
          have hcell := rec_cell (HY.out.2.2.below hA.bel hyB5) hy
          have HyT := Lib.hid (show ys.take (k + 1) = ys.take k ++ [y] from by
            rw [List.take_succ_eq_append_getElem hky]
            rw [List.getElem?_eq_getElem hky] at hy
            rw [Option.some.inj hy])
          obtain ⟨yR, yN, yT, yP, yK, yO, r⟩ := y
          dsimp only [RcV.enc] at hrec hcell hSk
          obtain ⟨vR, vT2, vP2, vK2, vO2, e, g1, g2, g3, g4, g5⟩ := hrec
          have e2 : [yR, .int .i64 yN, yT, yP, yK, yO] = [vR, .int .i64 r.N, vT2, vP2, vK2, vO2] := by simpa using congrArg Array.toList e
          simp only [List.cons.injEq, Value.int.injEq, true_and, and_true] at e2
          obtain ⟨rfl, rfl, rfl, rfl, rfl, rfl⟩ := e2
          obtain ⟨aR, cR, rfl⟩ := ownsRow_slice g1
          obtain ⟨aT2, cT2, rfl⟩ := ownsRow_slice g2
          obtain ⟨aP, cP, rfl⟩ := ownsRow_slice g3
          obtain ⟨aK, cK, rfl⟩ := ownsRow_slice g4
          obtain ⟨aO2, cO2, rfl⟩ := ownsRow_slice g5
          have z0 : wy.cell? ⟨b, k * 6, none⟩ = some (.slice aR r.row.length cR) := hcell 0 (by decide)
          have z1 : wy.cell? ⟨b, k * 6 + 1, none⟩ = some (.int .i64 r.N) := hcell 1 (by decide)
          have z2 : wy.cell? ⟨b, k * 6 + 2, none⟩ = some (.slice aT2 r.T.length cT2) := hcell 2 (by decide)
          have z3 : wy.cell? ⟨b, k * 6 + 3, none⟩ = some (.slice aP r.P.length cP) := hcell 3 (by decide)
          have z4 : wy.cell? ⟨b, k * 6 + 4, none⟩ = some (.slice aK r.K.length cK) := hcell 4 (by decide)
          have z5 : wy.cell? ⟨b, k * 6 + 5, none⟩ = some (.slice aO2 r.old.length cO2) := hcell 5 (by decide)
          have tP := HfP.out (k + 1)
          have tK := HfK.out (k + 1)
          have tO := HfO.out (k + 1)
          have HtP := Lib.hid (flat_snoc hSk (·.P))
          have HtK := Lib.hid (flat_snoc hSk (·.K))
          have HtO := Lib.hid (flat_snoc hSk (·.old))
          rw [HtP.out, List.length_append] at tP
          rw [HtK.out, List.length_append] at tK
          rw [HtO.out, List.length_append] at tO
          obtain ⟨Pk, hPk⟩ : ∃ Pk, (S.take k).flatMap (·.P) = Pk := ⟨_, rfl⟩
          obtain ⟨Kk, hKk⟩ : ∃ Kk, (S.take k).flatMap (·.K) = Kk := ⟨_, rfl⟩
          obtain ⟨Ok, hOk⟩ : ∃ Ok, (S.take k).flatMap (·.old) = Ok := ⟨_, rfl⟩
          obtain ⟨Yk, hYk⟩ : ∃ Yk, ys.take k = Yk := ⟨_, rfl⟩
          have hYl : Yk.length ≤ 40 := by rw [← hYk, List.length_take]; omega
          rw [hPk, hKk, hOk, hYk] at hA
          rw [hPk] at HtP tP
          rw [hKk] at HtK tK
          rw [hOk] at HtO tO
          rw [hYk] at HyT
          have HA := Lib.hid hA
          have G := Lib.hid (And.intro g3 (And.intro g4 g5))
          have hzy := hA.bel.size
          have hkxl := hA.kx.lt
          have hkmi : (k : Int) < (m : Int) := by omega
          have HAl := Lib.hid ((hA.alloc (.cells #[.slice aR r.row.length cR, .int .i64 r.N, .slice aT2 r.T.length cT2, .slice aP r.P.length cP, .slice aK r.K.length cK, .slice aO2 r.old.length cO2] 142)).alloc (.cells #[.int .i64 r.N, .slice aT2 r.T.length cT2] 24))
          have hq0 := (Blk.new wy 142 #[.slice aR r.row.length cR, .int .i64 r.N, .slice aT2 r.T.length cT2, .slice aP r.P.length cP, .slice aK r.K.length cK, .slice aO2 r.old.length cO2]).alloc (.cells #[.int .i64 r.N, .slice aT2 r.T.length cT2] 24)
          have HQ0 := Lib.hid hq0
          clear hA g1 g2 g3 g4 g5 hcell hy hSk e hPk hKk hOk hYk hq0
          go_upto_region 21 with (at_builtin; go_loud (refine wpList_append_lies _ rfl (.tmp 77) (.tmp 81) 62 rfl w5.heap.size 24 i4 _ 2 32 Try.underlying62 hj4 b40 b41 b42 rfl (by decide) _ _ _ rfl HAl.out.rA ⟨wy.heap.size + 1, 0, none⟩ 1 1 [.int .i64 r.N, .slice aT2 r.T.length cT2] rfl rfl (World.news_of_block (blk_new_at (by simp))) (by simp [Value.oneCell']) (by decide) (by unfold maxLen; omega) (by omega) (by simp; omega) (wy.heap.size + 1 + 1) (by simp) ?_); go_loud (intro g8 cap8 W8 hr8 hg8 hat8 hlt8; have h8 := HAl.out.appA hg8 (ys4 := Yk ++ [⟨.slice aR r.row.length cR, r.N, .slice aT2 r.T.length cT2, .slice aP r.P.length cP, .slice aK r.K.length cK, .slice aO2 r.old.length cO2, r⟩]) (by rw [List.length_append, List.flatMap_append]; exact hr8); have hq8 := HQ0.out.grown hg8 (fun e => own_blk_ne HAl.out.rA HQ0.out (by decide) e.symm); clear hr8 hat8 hlt8))
          have HA8 := Lib.hid h8
          have HQ8 := Lib.hid hq8
          have hqx : wy.heap.size ≠ w5.heap.size := by omega
          obtain ⟨lx, x0, f0, x1, f1, x2, f2, x3, f3⟩ := fourG h8.kx
          obtain ⟨lq, y0, q0, y1, q1, y2, q2, y3, q3, y4, q4, y5, q5⟩ := sixF hq8
          have hz8 := hg8.size
          clear h8 hq8 hg8 z0 z1 z2 z3 z4 z5
          generalize hqq : wy.heap.size = q at *
          clear hqq
          go_upto_region 22 with (at_builtin; go_loud (refine wpList_append_any W8 rfl (.tmp 84) (.tmp 87) 96 rfl w5.heap.size 162 i3 _ 3 24 Try.underlying96 hj3 b30 b31 b32 rfl (by decide) vP' Pk.length (ws3 Pk) rfl HA8.out.rP W1.heap.size (.slice aP r.P.length cP) r.P.length (ws3 r.P) rfl (own_below G.out.1 HA8.out.bel) (ws3_one _) (by unfold maxLen; omega) (by omega) HA8.out.bel.size ?_); go_loud (intro v9 W9 hr9 hg9 hat9; obtain ⟨a9, c9, rfl⟩ := ownsRow_slice hr9; have h9 := HA8.out.appP hg9 (P4 := Pk ++ r.P) (v4 := .slice a9 (Pk.length + r.P.length) c9) (by rw [ws3_app, List.length_append]; exact hr9); have hq9 := (HQ8.out.grown hg9 (fun e => own_blk_ne HA8.out.rP HQ8.out (by decide) e.symm)).far (p := ⟨w5.heap.size, 2, none⟩) hqx (.slice a9 (Pk.length + r.P.length) c9); clear hr9 hat9; obtain ⟨lx', x0', f0', x1', f1', x2', f2', x3', f3'⟩ := fourG h9.1))
          have HA9 := Lib.hid h9.2
          have HQ9 := Lib.hid hq9
          clear x0' f0' x1' f1' x2' f2' x3' f3' lx' lx x0 f0 x1 f1 x2 f2 x3 f3 lq y0 q0 y1 q1 y2 q2 y3 q3 y4 q4 y5 q5 hg9
          generalize W9.setCell _ _ = W9' at *
          obtain ⟨lx, x0, f0, x1, f1, x2, f2, x3, f3⟩ := fourG h9.2.kx
          obtain ⟨lq, y0, q0, y1, q1, y2, q2, y3, q3, y4, q4, y5, q5⟩ := sixF hq9
          clear h9 hq9
          go_upto_region 23 with (at_builtin; go_loud (refine wpList_append_any W9' rfl (.tmp 91) (.tmp 94) 35 rfl w5.heap.size 3 i2 _ 1 8 Try.underlying35 hj2 b20 b21 b22 rfl (by decide) vK' Kk.length (intsV Kk) rfl HA9.out.rK W1.heap.size (.slice aK r.K.length cK) r.K.length (intsV r.K) rfl (own_below G.out.2.1 HA9.out.bel) (intsV_one9 _) (by unfold maxLen; omega) (by omega) HA9.out.bel.size ?_); go_loud (intro v10 W10 hr10 hg10 hat10; obtain ⟨a10, c10, rfl⟩ := ownsRow_slice hr10; have h10 := HA9.out.appK hg10 (K4 := Kk ++ r.K) (v4 := .slice a10 (Kk.length + r.K.length) c10) (by rw [intsV_app9, List.length_append]; exact hr10) hat10; have hq10 := (HQ9.out.grown hg10 (fun e => own_blk_ne HA9.out.rK HQ9.out (by decide) e.symm)).far (p := ⟨w5.heap.size, 3, none⟩) hqx (.slice a10 (Kk.length + r.K.length) c10); clear hr10 hat10; obtain ⟨lx', x0', f0', x1', f1', x2', f2', x3', f3'⟩ := fourG h10.1))
          have HA10 := Lib.hid h10.2
          have HQ10 := Lib.hid hq10
          clear x0' f0' x1' f1' x2' f2' x3' f3' lx' lx x0 f0 x1 f1 x2 f2 x3 f3 lq y0 q0 y1 q1 y2 q2 y3 q3 y4 q4 y5 q5 hg10
          generalize W10.setCell _ _ = W10' at *
          obtain ⟨lq, y0, q0, y1, q1, y2, q2, y3, q3, y4, q4, y5, q5⟩ := sixF hq10
          clear h10 hq10
          go_upto_region 24 with (at_builtin; go_loud (refine wpList_append_any W10' rfl (.tmp 97) (.tmp 99) 35 rfl w5.heap.size 3 i2 _ 1 8 Try.underlying35 hj2 b20 b21 b22 rfl (by decide) _ Ok.length (intsV Ok) rfl HA10.out.rO W1.heap.size (.slice aO2 r.old.length cO2) r.old.length (intsV r.old) rfl (own_below G.out.2.2 HA10.out.bel) (intsV_one9 _) (by unfold maxLen; omega) (by omega) HA10.out.bel.size ?_); go_loud (intro v11 W11 hr11 hg11 hat11; have h11 := HA10.out.appO hg11 (O4 := Ok ++ r.old) (v4 := v11) (by rw [intsV_app9, List.length_append]; exact hr11) hat11; clear hr11 hat11 hg11))
          have HA11 := Lib.hid h11
          clear h11 lq y0 q0 y1 q1 y2 q2 y3 q3 y4 q4 y5 q5
          go_wp2
          go_roundw
          case measure => simp [intOf]; omega
          case rel => exact ⟨k + 1, by omega, by go_num, _, _, by rw [HtP.out, HtK.out, HtO.out, HyT.out]; exact HA11.out⟩
        · obtain rfl : m = k := by omega
          rw [List.take_of_length_le (by omega), List.take_of_length_le (Nat.le_of_eq HSl.out)] at hA
          have hSd := soups_rd hA HY.out.1 HY.out.2.1
          have HJ := Lib.hid (join_any _ (soupsM S) wy hSd (by have : (soupsM S).length = m := by simp [soupsM, HSl.out]
                                                               omega) HSf.out.1 (by have := HSf.out.2.1; omega) (by have := HSf.out.2.2; omega))
          obtain ⟨PP, hPP⟩ : ∃ PP, S.flatMap (·.P) = PP := ⟨_, rfl⟩
          obtain ⟨KK, hKK⟩ : ∃ KK, S.flatMap (·.K) = KK := ⟨_, rfl⟩
          obtain ⟨OO, hOO⟩ : ∃ OO, S.flatMap (·.old) = OO := ⟨_, rfl⟩
          rw [hPP, hKK, hOO] at hA
          have HPe := Lib.hid (And.intro hPP (And.intro hKK hOO))
          clear hPP hKK hOO
          obtain ⟨aA, cA, rfl⟩ := ownsRow_slice hA.rA
          obtain ⟨aP9, cP9, rfl⟩ := ownsRow_slice hA.rP
          obtain ⟨aK9, cK9, rfl⟩ := ownsRow_slice hA.rK
          obtain ⟨aO9, cO9, rfl⟩ := ownsRow_slice hA.rO
          have HA := Lib.hid hA
          have hlx := hA.kx.lt
          obtain ⟨JN, hJN⟩ : ∃ JN, (joinM (soupsM S)).1 = JN := ⟨_, rfl⟩
          obtain ⟨JT, hJT⟩ : ∃ JT, (joinM (soupsM S)).2 = JT := ⟨_, rfl⟩
          rw [hJN, hJT] at HJ
          have HJe := Lib.hid (And.intro hJN hJT)
          clear hA hSd hJN hJT hyl
          go_upto_region 26 with (go_at_call 10; go_loud (refine HJ.out.mono ?_; rintro e wJ ⟨vTJ, rfl, hTJ, hbJ⟩; obtain ⟨aJ, cJ, rfl⟩ := ownsRow_slice hTJ; have hAJ := HA.out.below hbJ; obtain ⟨lx, x0, f0, x1, f1, x2, f2, x3, f3⟩ := fourG hAJ.kx))
          have HAJ := Lib.hid hAJ
          have HTJ := Lib.hid hTJ
          have HbJ := Lib.hid hbJ
          have hk2 := blk_set2 (.int .i64 JN) (.slice aJ JT.length cJ) hAJ.kx
          have hs2 : w.heap.size + 1 < W1.heap.size := HB2'.out.lt
          have hB2w := (HB2'.out.below (HB5.out.trans (hAJ.bel.mono hz5)) HB2'.out.lt)
          have hB2x := far_set2 (b := w5.heap.size) (.int .i64 JN) (.slice aJ JT.length cJ) hB2w (by omega)
          have HK2 := Lib.hid hk2
          have HB2x := Lib.hid hB2x
          clear lx x0 f0 x1 f1 x2 f2 x3 f3 hAJ hTJ hbJ
          unfold set2 at hk2 hB2x
          obtain ⟨lx, x0, f0, x1, f1, x2, f2, x3, f3⟩ := fourG hk2
          obtain ⟨ly, y0, q0, y1, q1, y2, q2, y3, q3⟩ := fourG hB2x
          clear hk2 hB2x hB2w
          go_wp2
          have hK4 := blk_set4 (.int .i64 JN) (.slice aJ JT.length cJ) (.slice aP9 PP.length cP9) (.slice aK9 KK.length cK9) HB2x.out
          have hwW := HBW.out.size
          have hbAll : Below w.heap.size w wJ := HBW.out.trans ((HB5.out.trans (HAJ.out.bel.mono hz5)).mono hwW)
          have hb2 := below_set2 (b := w5.heap.size) (.int .i64 JN) (.slice aJ JT.length cJ) hbAll (by omega)
          have hb4 := below_set4 (b := w.heap.size + 1) (.int .i64 JN) (.slice aJ JT.length cJ) (.slice aP9 PP.length cP9) (.slice aK9 KK.length cK9) hb2 (by omega)
          have hT4 := own_set4 (.int .i64 JN) (.slice aJ JT.length cJ) (.slice aP9 PP.length cP9) (.slice aK9 KK.length cK9) (own_set2 (.int .i64 JN) (.slice aJ JT.length cJ) HTJ.out HAJ.out.kx (by decide)) HB2x.out (by decide)
          have hP4 := own_set4 (.int .i64 JN) (.slice aJ JT.length cJ) (.slice aP9 PP.length cP9) (.slice aK9 KK.length cK9) (own_set2 (.int .i64 JN) (.slice aJ JT.length cJ) HAJ.out.rP HAJ.out.kx (by decide)) HB2x.out (by decide)
          have hK4r := own_set4 (.int .i64 JN) (.slice aJ JT.length cJ) (.slice aP9 PP.length cP9) (.slice aK9 KK.length cK9) (own_set2 (.int .i64 JN) (.slice aJ JT.length cJ) HAJ.out.rK HAJ.out.kx (by decide)) HB2x.out (by decide)
          have hO4 := own_set4 (.int .i64 JN) (.slice aJ JT.length cJ) (.slice aP9 PP.length cP9) (.slice aK9 KK.length cK9) (own_set2 (.int .i64 JN) (.slice aJ JT.length cJ) HAJ.out.rO HAJ.out.kx (by decide)) HB2x.out (by decide)
          obtain ⟨-, p0, p1, p2, p3⟩ := fourF hK4
          unfold set2 set4 at p0 p1 p2 p3 hb4 hT4 hP4 hK4r hO4
          have hwy := HA.out.bel.size
          refine bodyPost_ret (v := .tuple #[.agg #[.int .i64 JN, .slice aJ JT.length cJ, .slice aP9 PP.length cP9, .slice aK9 KK.length cK9], .slice aO9 OO.length cO9]) (by simp [results, Try.results53, go_sem, p0, p1, p2, p3]) rfl ?_
          have eS := HS5.out
          have eJ := HJe.out
          have eP := HPe.out
          refine ⟨out, m, .slice aJ JT.length cJ, .slice aP9 PP.length cP9, .slice aK9 KK.length cK9, .slice aO9 OO.length cO9, Hsh.out, Hm.out.symm, ?_, ?_, ?_, ?_, ?_, hb4⟩
          · rw [eS, eJ.1]
          · rw [eS, eJ.2]
            exact own_lower hT4 (by omega)
          · rw [eS, eP.1]
            exact own_lower hP4 (by omega)
          · rw [eS, eP.2.1]
            exact own_lower hK4r (by omega)
          · rw [eS, eP.2.2]
            exact own_lower hO4 (by omega)
end Go.Proofs.Ytpnkhgjjlionnaa
namespace Go.Proofs.Ytpnkhgjjlionnaa
open Go.RowKit Go.Maps

def frmS (T : List Tr) (out : List Int) (m : Nat) : Int × List Tr := joinM (soupsM (sortM T [] [] out m))
def frmO (T : List Tr) (out : List Int) (m : Nat) : List Int := (sortM T [] [] out m).flatMap (·.old)
/-- The form of a surface's triangles, and the old numbers. -/
def FormIs (T : List Tr) (S : Int × List Tr) (O : List Int) : Prop := ∃ (out : List Int) (m : Nat), Shl T out ∧ (m : Int) = cntL out ∧ S = frmS T out m ∧ O = frmO T out m
theorem FormIs.one {T : List Tr} {S S' : Int × List Tr} {O O' : List Int} (h : FormIs T S O) (h' : FormIs T S' O') : S = S' ∧ O = O' := by
  obtain ⟨out, m, h1, h2, rfl, rfl⟩ := h
  obtain ⟨out', m', h1', h2', rfl, rfl⟩ := h'
  have e := h1.one h1'
  subst e
  have : m = m' := by omega
  subst this
  exact ⟨rfl, rfl⟩
theorem FormIs.len {T : List Tr} {S : Int × List Tr} {O : List Int} (h : FormIs T S O) : S.2.length ≤ T.length := by
  obtain ⟨out, m, h1, h2, rfl, rfl⟩ := h
  exact (soups_bd (P := []) (K := []) h1 (h1.hasP h2)).2
theorem ints_nil (w : World) : IntsRd w (.slice none 0 0) [] := IntsRd.of_row (base := 0) (n := 0) (World.ownsRow_nil _ _ _ _) rfl
theorem tris_nil (w : World) : TrisRd w (.slice none 0 0) [] := ⟨none, 0, rfl, Nat.le_refl _, by decide, fun i x y z h => by simp at h⟩
theorem form_soupG (N : Int) (v : Value) (T : List Tr) (w : World) (hS : Surf N T) (h : TrisRd w v T) (hl : T.length ≤ 1000) (h60 : N ≤ 60 ∨ T.length < 40) :
    Calls Try.prog 53 #[.agg #[.int .i64 N, v, .slice none 0 0, .slice none 0 0]] w fun e w' => ∃ S O aT cT aP nP cP aK nK cK aO cO, FormIs T S O ∧ e = .returned (.tuple #[.agg #[.int .i64 S.1, .slice aT S.2.length cT, .slice aP nP cP, .slice aK nK cK], .slice aO O.length cO]) ∧
      w'.ownsRow w.heap.size 61 3 (.slice aT S.2.length cT) S.2.length (ws3 S.2) ∧ w'.ownsRow w.heap.size 3 1 (.slice aO O.length cO) O.length (intsV O) ∧ Below w.heap.size w w' := by
  refine (formG_any N T [] [] _ _ _ w hS h (tris_nil w) (ints_nil w) (fun h => absurd rfl h) (fun h => absurd rfl h) h60 hl).mono ?_
  rintro e w2 ⟨out, m, vT', vP', vK', vO', hsh, hm, rfl, hT, hP, hK, hO, hb2⟩
  obtain ⟨aP9, cP9, rfl⟩ := ownsRow_slice hP
  obtain ⟨aK9, cK9, rfl⟩ := ownsRow_slice hK
  obtain ⟨aT9, cT9, rfl⟩ := ownsRow_slice hT
  obtain ⟨aO9, cO9, rfl⟩ := ownsRow_slice hO
  exact ⟨frmS T out m, frmO T out m, _, _, _, _, _, _, _, _, _, _, ⟨out, m, hsh, hm, rfl, rfl⟩, rfl, hT, hO, hb2⟩
set_option maxRecDepth 100000 in
set_option maxHeartbeats 1000000 in
theorem cform_anyG (N : Int) (v : Value) (T : List Tr) (w : World) (h : TrisRd w v T) (hl : T.length ≤ 1000) (h60 : N ≤ 60 ∨ T.length < 40) :
    Calls Try.prog 24 #[.agg #[.int .i64 N, v]] w fun e w' => ((¬ Surf N T ∧ e = .returned (.tuple #[.agg #[.int .i64 0, .slice none 0 0], .slice none 0 0, .int .i64 11])) ∨
      (Surf N T ∧ ∃ S O vT vO, FormIs T S O ∧ e = .returned (.tuple #[.agg #[.int .i64 S.1, vT], vO, .int .i64 0]) ∧ w'.ownsRow w.heap.size 61 3 vT S.2.length (ws3 S.2) ∧ w'.ownsRow w.heap.size 3 1 vO O.length (intsV O))) ∧ Below w.heap.size w w' := by
  have hb1 := (Blk.new w 24 #[.int .i64 N, v]).alloc (.cells #[.int .i64 0, .slice none 0 0] 24)
  have hb2 : Blk ((w.alloc (.cells #[.int .i64 N, v] 24)).alloc (.cells #[.int .i64 0, .slice none 0 0] 24)) (w.heap.size + 1) 24 #[.int .i64 0, .slice none 0 0] := blk_new_at (by simp)
  have hB0 : Below w.heap.size w ((w.alloc (.cells #[.int .i64 N, v] 24)).alloc (.cells #[.int .i64 0, .slice none 0 0] 24)) := ((Below.refl _ _).alloc (Nat.le_refl _) _).alloc (by simp) _
  have HI := Lib.hid (is_any N v T _ (h.below hB0) (by omega))
  have HR := Lib.hid (fun (W : World) (hW : Below w.heap.size w W) => h.below hW)
  obtain ⟨aT, cT, rfl, -⟩ := h
  obtain ⟨l1, x0, -, x1, -⟩ := hb1.two
  have HB0 := Lib.hid hB0
  have HB1 := Lib.hid hb1
  have HB2 := Lib.hid hb2
  clear hB0 hb1 hb2
  obtain ⟨F, hF⟩ : ∃ F, T.length = F := ⟨_, rfl⟩
  have HF := Lib.hid hF
  rw [hF] at HI x1 HB0 HB1 HB2 l1 x0 HR hl ⊢
  clear hF
  go_enter Try.func24, Try.ntmps24
  go_upto_if 9 with (go_at_call 13; go_loud (refine HI.out.mono ?_; rintro e w1 ⟨bs, rfl, hbs, hb⟩))
  have hBW := HB0.out.trans (hb.mono HB0.out.size)
  have hb1' := HB1.out.below hb HB1.out.lt
  have hb2' := HB2.out.below hb HB2.out.lt
  have HBs := Lib.hid hbs
  have HBW := Lib.hid hBW
  have HB2' := Lib.hid hb2'
  obtain ⟨l1', x0', -, x1', -⟩ := hb1'.two
  obtain ⟨l2', y0, f0, y1, f1⟩ := hb2'.two
  have hz1 := hBW.size
  clear hb hbs x0 x1 l1 hb1' hBW hb2' HI
  cases bs with
  | false =>
    have hno : ¬ Surf N T := fun h => by have := HBs.out.2 h; cases this
    have HNo := Lib.hid hno
    have hK := (HB2'.out.set_ 0 (.int .i64 0)).set_ 1 (.slice none 0 0)
    have HK := Lib.hid (show Blk _ (w.heap.size + 1) 24 #[.int .i64 0, .slice none 0 0] from by simpa using hK)
    have HBe := Lib.hid ((HBW.out.setCell (p := ⟨w.heap.size + 1, 0, none⟩) (by simp) (.int .i64 0)).setCell (p := ⟨w.heap.size + 1, 1, none⟩) (by simp) (.slice none 0 0))
    clear hno hK HBs
    go_wp2
    obtain ⟨-, p0, -, p1, -⟩ := HK.out.two
    refine bodyPost_ret (v := .tuple #[.agg #[.int .i64 0, .slice none 0 0], .slice none 0 0, .int .i64 11]) (by simp [results, Try.results24, go_sem, p0, p1]) rfl ?_
    exact ⟨.inl ⟨HNo.out, rfl⟩, HBe.out⟩
  | true =>
    have hS := HBs.out.1 rfl
    have HS := Lib.hid hS
    have HFm := Lib.hid (form_soupG N _ T w1 hS (HR.out w1 HBW.out) (by rw [HF.out]; exact hl) h60)
    clear hS HBs
    go_upto_region 4 with (go_at_call 53; go_loud (refine HFm.out.mono ?_; rintro e w2 ⟨S, O, aT9, cT9, aP9, nP9, cP9, aK9, nK9, cK9, aO9, cO9, hFI, rfl, hT, hO, hb2⟩))
    have hA := (Below.refl w2.heap.size w2).alloc (Nat.le_refl _) (.cells #[.int .i64 S.1, .slice aT9 S.2.length cT9, .slice aP9 nP9 cP9, .slice aK9 nK9 cK9] 98)
    have hk := Blk.new w2 98 #[.int .i64 S.1, .slice aT9 S.2.length cT9, .slice aP9 nP9 cP9, .slice aK9 nK9 cK9]
    obtain ⟨lk, z0, z1, -, -⟩ := fourF hk
    have hs2 : w.heap.size + 1 < w1.heap.size := HB2'.out.lt
    have h2 := (HB2'.out.below hb2 hs2).below hA (Nat.lt_of_lt_of_le hs2 hb2.size)
    obtain ⟨l3, y0, f0, y1, f1⟩ := h2.two
    have hT2 := own_below hT hA
    have hO2 := own_below hO hA
    have hK := (h2.set_ 0 (.int .i64 S.1)).set_ 1 (.slice aT9 S.2.length cT9)
    have HK := Lib.hid (show Blk _ (w.heap.size + 1) 24 #[.int .i64 S.1, .slice aT9 S.2.length cT9] from by simpa using hK)
    have HBe := Lib.hid (((HBW.out.trans ((hb2.trans (hA.mono hb2.size)).mono hz1)).setCell (p := ⟨w.heap.size + 1, 0, none⟩) (by simp) (.int .i64 S.1)).setCell (p := ⟨w.heap.size + 1, 1, none⟩) (by simp) (.slice aT9 S.2.length cT9))
    have HO2 := Lib.hid (And.intro (own_alloc_st (i := 1) (u := .slice aT9 S.2.length cT9) (own_alloc_st (i := 0) (u := .int .i64 S.1) hT2 h2 (by decide)) (h2.set_ 0 (.int .i64 S.1)) (by decide)) (own_alloc_st (i := 1) (u := .slice aT9 S.2.length cT9) (own_alloc_st (i := 0) (u := .int .i64 S.1) hO2 h2 (by decide)) (h2.set_ 0 (.int .i64 S.1)) (by decide)))
    have HFI := Lib.hid hFI
    clear hA hk h2 hT2 hO2 hK hT hO hFI hb2
    go_wp2
    obtain ⟨-, p0, -, p1, -⟩ := HK.out.two
    refine bodyPost_ret (v := .tuple #[.agg #[.int .i64 S.1, .slice aT9 S.2.length cT9], .slice aO9 O.length cO9, .int .i64 0]) (by simp [results, Try.results24, go_sem, p0, p1]) rfl ?_
    exact ⟨.inr ⟨HS.out, S, O, _, _, HFI.out, rfl, own_lower HO2.out.1 hz1, own_lower HO2.out.2 hz1⟩, HBe.out⟩
theorem cform_twoG (N : Int) (v : Value) (T : List Tr) (w : World) (h : TrisRd w v T) (hl : T.length ≤ 1000) (h60 : N ≤ 60 ∨ T.length < 40) :
    Calls Try.prog 24 #[.agg #[.int .i64 N, v]] w fun e w' => ∃ S O aT cT aO cO er, e = .returned (.tuple #[.agg #[.int .i64 S.1, .slice aT S.2.length cT], .slice aO O.length cO, .int .i64 er]) ∧ TrisRd w' (.slice aT S.2.length cT) S.2 ∧ IntsRd w' (.slice aO O.length cO) O ∧ S.2.length ≤ 1000 ∧
      ((er = 0 ∧ Surf N T ∧ FormIs T S O) ∨ (er = 11 ∧ ¬ Surf N T ∧ S = (0, []) ∧ O = [])) ∧ Below w.heap.size w w' := by
  refine (cform_anyG N v T w h hl h60).mono ?_
  rintro e w' ⟨⟨hno, rfl⟩ | ⟨hS, S, O, vT, vO, hF, rfl, hT, hO⟩, hb⟩
  · exact ⟨(0, []), [], none, 0, none, 0, 11, rfl, tris_nil _, ints_nil _, by simp, .inr ⟨rfl, hno, rfl, rfl⟩, hb⟩
  · obtain ⟨aT, cT, rfl⟩ := ownsRow_slice hT
    obtain ⟨aO, cO, rfl⟩ := ownsRow_slice hO
    exact ⟨S, O, aT, cT, aO, cO, 0, rfl, TrisRd.of_row hT, IntsRd.of_row hO rfl, Nat.le_trans hF.len hl, .inl ⟨rfl, hS, hF⟩, hb⟩
theorem cform_two (N : Int) (v : Value) (T : List Tr) (w : World) (h : TrisRd w v T) (hl : T.length ≤ 1000) (h60 : N ≤ 60) :
    Calls Try.prog 24 #[.agg #[.int .i64 N, v]] w fun e w' => ∃ S O aT cT aO cO er, e = .returned (.tuple #[.agg #[.int .i64 S.1, .slice aT S.2.length cT], .slice aO O.length cO, .int .i64 er]) ∧ TrisRd w' (.slice aT S.2.length cT) S.2 ∧ IntsRd w' (.slice aO O.length cO) O ∧ S.2.length ≤ 1000 ∧
      ((er = 0 ∧ Surf N T ∧ FormIs T S O) ∨ (er = 11 ∧ ¬ Surf N T ∧ S = (0, []) ∧ O = [])) ∧ Below w.heap.size w w' := cform_twoG N v T w h hl (.inl h60)
/-- Are two surfaces' forms the same? -/
def FormEq (N1 N2 : Int) (T1 T2 : List Tr) : Prop := Surf N1 T1 ∧ Surf N2 T2 ∧ ∃ S O1 O2, FormIs T1 S O1 ∧ FormIs T2 S O2
set_option maxRecDepth 100000 in
set_option maxHeartbeats 2000000 in
theorem equal_anyG (N1 N2 : Int) (v1 v2 : Value) (T1 T2 : List Tr) (w : World) (h1 : TrisRd w v1 T1) (h2 : TrisRd w v2 T2) (l1 : T1.length ≤ 1000) (l2 : T2.length ≤ 1000) (n1 : N1 ≤ 60 ∨ T1.length < 40) (n2 : N2 ≤ 60 ∨ T2.length < 40) :
    Calls Try.prog 11 #[.agg #[.int .i64 N1, v1], .agg #[.int .i64 N2, v2]] w fun e w' => ∃ b : Bool, e = .returned (.bool b) ∧ (b = true ↔ FormEq N1 N2 T1 T2) ∧ Below w.heap.size w w' := by
  have hb1 := (Blk.new w 24 #[.int .i64 N1, v1]).alloc (.cells #[.int .i64 N2, v2] 24)
  have hb2 : Blk ((w.alloc (.cells #[.int .i64 N1, v1] 24)).alloc (.cells #[.int .i64 N2, v2] 24)) (w.heap.size + 1) 24 #[.int .i64 N2, v2] := blk_new_at (by simp)
  have hB0 : Below w.heap.size w ((w.alloc (.cells #[.int .i64 N1, v1] 24)).alloc (.cells #[.int .i64 N2, v2] 24)) := ((Below.refl _ _).alloc (Nat.le_refl _) _).alloc (by simp) _
  have HF1 := Lib.hid (cform_twoG N1 v1 T1 _ (h1.below hB0) l1 n1)
  have HF2 := Lib.hid (fun (W : World) (hW : Below w.heap.size w W) => cform_twoG N2 v2 T2 W (h2.below hW) l2 n2)
  obtain ⟨a1, c1, rfl, -⟩ := h1
  obtain ⟨a2, c2, rfl, -⟩ := h2
  obtain ⟨p0, x0, -, x1, -⟩ := hb1.two
  obtain ⟨F1, hF1⟩ : ∃ F, T1.length = F := ⟨_, rfl⟩
  obtain ⟨F2, hF2⟩ : ∃ F, T2.length = F := ⟨_, rfl⟩
  rw [hF1] at HF1 x0 x1 hB0 hb2 p0 l1 ⊢
  rw [hF2] at HF1 HF2 x0 x1 hB0 hb2 p0 l2 ⊢
  have HB0 := Lib.hid hB0
  have HB2 := Lib.hid hb2
  have HL := Lib.hid (And.intro hF1 hF2)
  clear hB0 hb1 hb2 hF1 hF2
  go_enter Try.func11, Try.ntmps11
  go_upto_region 2 with (go_at_call 24; go_loud (refine HF1.out.mono ?_; rintro e w1 ⟨S1, O1, aT1, cT1, aO1, cO1, er1, rfl, hr1, -, hs1, hc1, hb1⟩))
  have hA1 := (Below.refl w1.heap.size w1).alloc (Nat.le_refl _) (.cells #[.int .i64 S1.1, .slice aT1 S1.2.length cT1] 24)
  have hBa := HB0.out.trans ((hb1.trans (hA1.mono hb1.size)).mono HB0.out.size)
  have hk2 := (HB2.out.below hb1 HB2.out.lt).alloc (.cells #[.int .i64 S1.1, .slice aT1 S1.2.length cT1] 24)
  have hk5 := Blk.new w1 24 #[.int .i64 S1.1, .slice aT1 S1.2.length cT1]
  have hr1a := hr1.below hA1
  generalize hq5 : w1.heap.size = q5 at *
  have HF2' := Lib.hid (HF2.out _ hBa)
  obtain ⟨l2', y0, -, y1, -⟩ := hk2.two
  have HBa := Lib.hid hBa
  have Hk5 := Lib.hid hk5
  have Hr1 := Lib.hid hr1a
  have hz1 := hBa.size
  clear hr1 hb1 hA1 hBa hk2 hk5 hr1a x0 x1 p0
  go_upto_region 3 with (go_at_call 24; go_loud (refine HF2'.out.mono ?_; rintro e w2 ⟨S2, O2, aT2, cT2, aO2, cO2, er2, rfl, hr2, -, hs2, hc2, hb2⟩))
  have hA2 := (Below.refl w2.heap.size w2).alloc (Nat.le_refl _) (.cells #[.int .i64 S2.1, .slice aT2 S2.2.length cT2] 24)
  have hk5 := (Hk5.out.below hb2 Hk5.out.lt).alloc (.cells #[.int .i64 S2.1, .slice aT2 S2.2.length cT2] 24)
  have hk8 := Blk.new w2 24 #[.int .i64 S2.1, .slice aT2 S2.2.length cT2]
  have hr1b := (Hr1.out.below hb2).below hA2
  have hr2b := hr2.below hA2
  have HS := Lib.hid (soupSame_any S1.1 S2.1 _ _ S1.2 S2.2 _ hr1b hr2b (by omega) (by omega))
  have HBb := Lib.hid (HBa.out.trans ((hb2.trans (hA2.mono hb2.size)).mono hz1))
  obtain ⟨l5, z0, -, z1, -⟩ := hk5.two
  obtain ⟨l8, u0, -, u1, -⟩ := hk8.two
  clear hA2 hk5 hk8 hr1b hr2b hb2 hr2 y0 y1 l2'
  generalize w2.alloc (.cells #[.int .i64 S2.1, .slice aT2 S2.2.length cT2] 24) = w3 at *
  generalize w2.heap.size = q8 at *
  rcases hc1 with ⟨rfl, hS1, hI1⟩ | ⟨rfl, hS1, -⟩
  · rcases hc2 with ⟨rfl, hS2, hI2⟩ | ⟨rfl, hS2, -⟩
    · have HQ := Lib.hid (show decide (S1.1 = S2.1 ∧ S1.2 = S2.2) = true ↔ FormEq N1 N2 T1 T2 from by
        rw [decide_eq_true_iff]
        constructor
        · intro h
          refine ⟨hS1, hS2, S1, O1, O2, hI1, ?_⟩
          rw [Prod.ext h.1 h.2]
          exact hI2
        · rintro ⟨-, -, S, O, O', h, h'⟩
          rw [(hI1.one h).1, (hI2.one h').1]
          exact ⟨rfl, rfl⟩)
      clear hS1 hS2 hI1 hI2
      go_wp2_with (go_at_call 30; refine HS.out.mono ?_; rintro e w4 ⟨rfl, hb4⟩)
      go_ret
      exact ⟨_, by simp, HQ.out, HBb.out.trans (hb4.mono HBb.out.size)⟩
    · have HQ := Lib.hid (show false = true ↔ FormEq N1 N2 T1 T2 from ⟨fun h => (by cases h), fun h => absurd h.2.1 hS2⟩)
      clear hS1 hS2 hI1
      go_wp2
      go_ret
      exact ⟨_, by simp, HQ.out, HBb.out⟩
  · have HQ := Lib.hid (show false = true ↔ FormEq N1 N2 T1 T2 from ⟨fun h => (by cases h), fun h => absurd h.1 hS1⟩)
    clear hS1 hc2
    go_wp2
    go_ret
    exact ⟨_, by simp, HQ.out, HBb.out⟩
theorem equal_any (N1 N2 : Int) (v1 v2 : Value) (T1 T2 : List Tr) (w : World) (h1 : TrisRd w v1 T1) (h2 : TrisRd w v2 T2) (l1 : T1.length ≤ 1000) (l2 : T2.length ≤ 1000) (n1 : N1 ≤ 60) (n2 : N2 ≤ 60) :
    Calls Try.prog 11 #[.agg #[.int .i64 N1, v1], .agg #[.int .i64 N2, v2]] w fun e w' => ∃ b : Bool, e = .returned (.bool b) ∧ (b = true ↔ FormEq N1 N2 T1 T2) ∧ Below w.heap.size w w' := equal_anyG N1 N2 v1 v2 T1 T2 w h1 h2 l1 l2 (.inl n1) (.inl n2)
end Go.Proofs.Ytpnkhgjjlionnaa
namespace Go.Proofs.Ytpnkhgjjlionnaa
open Go.RowKit

theorem surf_fits {N : Int} {T : List Tr} (h : Surf N T) : fitsS N T = true := fitsS_of h.n0 h.n1 h.len fun t ht => by
  obtain ⟨a, b, c⟩ := h.inr t ht
  obtain ⟨d, e, f⟩ := h.simple t ht
  exact ⟨a, b, c, d, e, f⟩
end Go.Proofs.Ytpnkhgjjlionnaa
namespace Go.Proofs.Ytpnkhgjjlionnaa
open Go.RowKit

/-- The first k triangles have the numbers of their parts, n parts so far. -/
structure PreS (T : List Tr) (k n : Nat) (out : List Int) : Prop where
  len : out.length = k
  rng : ∀ j, j < k → 0 ≤ at_ out j ∧ at_ out j < n
  rea : ∀ i j, i < k → j < k → Reach T i j → at_ out i = at_ out j
  new : ∀ j, j < k → (∃ i, i < j ∧ at_ out i = at_ out j ∧ Reach T i j) ∨ ((∀ i, i < j → at_ out i < at_ out j) ∧ (at_ out j = 0 ∨ ∃ i, i < j ∧ at_ out i + 1 = at_ out j))
  top : n = 0 ∨ ∃ j, j < k ∧ at_ out j + 1 = n
theorem at_snoc_lt {l : List Int} {x : Int} {j : Nat} (h : j < l.length) : at_ (l ++ [x]) j = at_ l j := by
  simp [at_, List.getD, List.getElem?_append_left h]
theorem at_snoc_eq (l : List Int) (x : Int) : at_ (l ++ [x]) l.length = x := by
  simp [at_, List.getD]
theorem preS_ex {T : List Tr} (hE : (T.flatMap edges3).Nodup) : ∀ k, k ≤ T.length → ∃ n out, PreS T k n out
  | 0, _ => ⟨0, [], rfl, fun j hj => by omega, fun i j hi => by omega, fun j hj => by omega, .inl rfl⟩
  | k + 1, hk => by
    obtain ⟨n, out, h⟩ := preS_ex hE k (by omega)
    have hl := h.len
    have lo : ∀ (x : Int) (j : Nat), j < k → at_ (out ++ [x]) j = at_ out j := fun x j hj => at_snoc_lt (by omega)
    have hi' : ∀ x : Int, at_ (out ++ [x]) k = x := fun x => by rw [← hl]; exact at_snoc_eq out x
    by_cases hr : ∃ i, i < k ∧ Reach T i k
    · obtain ⟨i, hi, hr⟩ := hr
      refine ⟨n, out ++ [at_ out i], by simp [hl], fun j hj => ?_, fun a b ha hb hab => ?_, fun j hj => ?_, ?_⟩
      · by_cases e : j = k
        · rw [e, hi']; exact h.rng i hi
        · rw [lo _ j (by omega)]; exact h.rng j (by omega)
      · by_cases ea : a = k
        · by_cases eb : b = k
          · rw [ea, eb]
          · rw [ea, hi', lo _ b (by omega)]
            rw [ea] at hab
            exact h.rea i b hi (by omega) (hr.trans hab)
        · rw [lo _ a (by omega)]
          by_cases eb : b = k
          · rw [eb, hi']
            rw [eb] at hab
            exact h.rea a i (by omega) hi (hab.trans (hr.symm hE))
          · rw [lo _ b (by omega)]
            exact h.rea a b (by omega) (by omega) hab
      · by_cases e : j = k
        · subst e
          exact .inl ⟨i, hi, by rw [hi', lo _ i hi], hr⟩
        · rw [lo _ j (by omega)]
          rcases h.new j (by omega) with ⟨a, h1, h2, h3⟩ | ⟨h1, h2⟩
          · exact .inl ⟨a, h1, by rw [lo _ a (by omega)]; exact h2, h3⟩
          · refine .inr ⟨fun a ha => by rw [lo _ a (by omega)]; exact h1 a ha, ?_⟩
            rcases h2 with h2 | ⟨a, h2, h3⟩
            · exact .inl h2
            · exact .inr ⟨a, h2, by rw [lo _ a (by omega)]; exact h3⟩
      · rcases h.top with h1 | ⟨j, h1, h2⟩
        · exact .inl h1
        · exact .inr ⟨j, by omega, by rw [lo _ j h1]; exact h2⟩
    · refine ⟨n + 1, out ++ [(n : Int)], by simp [hl], fun j hj => ?_, fun a b ha hb hab => ?_, fun j hj => ?_, ?_⟩
      · by_cases e : j = k
        · rw [e, hi']; omega
        · rw [lo _ j (by omega)]
          have := h.rng j (by omega)
          omega
      · by_cases ea : a = k
        · by_cases eb : b = k
          · rw [ea, eb]
          · rw [ea] at hab
            exact absurd ⟨b, by omega, hab.symm hE⟩ hr
        · by_cases eb : b = k
          · rw [eb] at hab
            exact absurd ⟨a, by omega, hab⟩ hr
          · rw [lo _ a (by omega), lo _ b (by omega)]
            exact h.rea a b (by omega) (by omega) hab
      · by_cases e : j = k
        · subst e
          refine .inr ⟨fun a ha => by rw [hi', lo _ a ha]; exact (h.rng a ha).2, ?_⟩
          rw [hi']
          rcases h.top with h1 | ⟨a, h1, h2⟩
          · exact .inl (by omega)
          · exact .inr ⟨a, h1, by rw [lo _ a h1]; exact h2⟩
        · rw [lo _ j (by omega)]
          rcases h.new j (by omega) with ⟨a, h1, h2, h3⟩ | ⟨h1, h2⟩
          · exact .inl ⟨a, h1, by rw [lo _ a (by omega)]; exact h2, h3⟩
          · refine .inr ⟨fun a ha => by rw [lo _ a (by omega)]; exact h1 a ha, ?_⟩
            rcases h2 with h2 | ⟨a, h2, h3⟩
            · exact .inl h2
            · exact .inr ⟨a, h2, by rw [lo _ a (by omega)]; exact h3⟩
      · exact .inr ⟨k, by omega, by rw [hi']; omega⟩
theorem shl_ex {T : List Tr} (hE : (T.flatMap edges3).Nodup) : ∃ (out : List Int) (m : Nat), Shl T out ∧ (m : Int) = cntL out := by
  obtain ⟨n, out, h⟩ := preS_ex hE T.length (Nat.le_refl _)
  have hs : Shl T out := ⟨h.len, fun j hj => (h.rng j hj).1, fun c o hc ho => by
    have h1 := (opp_some hc ho).1
    exact (h.rea (c / 3) (o / 3) (by omega) (by omega) ((Reach.refl T _).step hc ho)).symm, h.new⟩
  have hb := (cntL_bd (out := out) (m := n) (fun j hj => (h.rng j (by rw [← h.len]; exact hj)).2) (by omega) out.length (Nat.le_refl _)).1
  rw [List.take_length] at hb
  exact ⟨out, (cntL out).toNat, hs, by omega⟩
end Go.Proofs.Ytpnkhgjjlionnaa
namespace Go.Proofs.Ytpnkhgjjlionnaa
open Go.RowKit Go.Maps

theorem formEq_iff {N N' : Int} {T T' : List Tr} : FormEq N N' T T' ↔ Surf N T ∧ Surf N' T' ∧ Alike T T' := by
  constructor
  · rintro ⟨h1, h2, S, O1, O2, ⟨o1, m1, a1, b1, e1, -⟩, ⟨o2, m2, a2, b2, e2, -⟩⟩
    exact ⟨h1, h2, (form_iff h1 h2 a1 a2 b1 b2).1 (e1.symm.trans e2)⟩
  · rintro ⟨h1, h2, ha⟩
    obtain ⟨o1, m1, a1, b1⟩ := shl_ex h1.twice
    obtain ⟨o2, m2, a2, b2⟩ := shl_ex h2.twice
    exact ⟨h1, h2, frmS T o1 m1, frmO T o1 m1, frmO T' o2 m2, ⟨o1, m1, a1, b1, rfl, rfl⟩, ⟨o2, m2, a2, b2, (form_iff h1 h2 a1 a2 b1 b2).2 ha, rfl⟩⟩
theorem formEq_mir {N N' : Int} {T T' : List Tr} (h1 : Surf N T) (h2 : Surf N' T') : FormEq N N' (T.map mirT) (T'.map mirT) ↔ FormEq N N' T T' := by
  rw [formEq_iff, formEq_iff, alike_mir]
  exact ⟨fun h => ⟨h1, h2, h.2.2⟩, fun h => ⟨mir_surf h1, mir_surf h2, h.2.2⟩⟩
theorem join_two {N N' : Int} {T T' : List Tr} : joinM [(N, T), (N', T')] = (N + N', T ++ T'.map (shT N)) := by
  show joinS (joinS (0, []) (N, T)) (N', T') = _
  unfold joinS
  simp [sh_zero]
theorem formEq_join {N N' : Int} {T T' : List Tr} (h1 : Surf N T) (h2 : Surf N' T') (hN : N + N' ≤ 4096) (hl : T.length + T'.length ≤ 8192) : FormEq (N + N') (N' + N) (T ++ T'.map (shT N)) (T' ++ T.map (shT N')) :=
  formEq_iff.2 ⟨join_surf h1 h2 hN hl, join_surf h2 h1 (by omega) (by omega), join_comm h1 h2⟩
theorem formEq_self {N : Int} {T : List Tr} (h : Surf N T) : FormEq N N T T := formEq_iff.2 ⟨h, h, Alike.refl T⟩
/-- Two soups beside each other in a block. -/
theorem soups_two {W : World} {b : Nat} {N N' : Int} {v v' : Value} {T T' : List Tr} (hb : Blk W b 24 #[.int .i64 N, v, .int .i64 N', v']) (h1 : TrisRd W v T) (h2 : TrisRd W v' T') : SoupsRd W (.slice (some ⟨b, 0, none⟩) 2 2) [(N, T), (N', T')] := by
  refine ⟨_, _, rfl, fun k M U h => ?_⟩
  match k, h with
  | 0, h =>
    cases h
    exact ⟨b, 0, v, rfl, hb.lt, hb.cell 0, hb.cell 1, h1⟩
  | 1, h =>
    cases h
    exact ⟨b, 0, v', rfl, hb.lt, hb.cell 2, hb.cell 3, h2⟩
  | k + 2, h => simp at h
end Go.Proofs.Ytpnkhgjjlionnaa
namespace Go.Proofs.Ytpnkhgjjlionnaa
open Go.RowKit

section
variable {P : Program} {l : List Oper} {Q : Exit → Act → World → Prop} {md : Region.Mode} {S : World → Prop} {n : Nat}

/-- Whatever order is picked from here on; behind each operation but the last one S holds. -/
def wpAnyU (P : Program) (md : Region.Mode) (l : List Oper) (Q : Exit → Act → World → Prop) (S : World → Prop) (n : Nat) : Nat → Array Bool → Act → World → Prop
  | 0, listed, a, w => Region.ready md l.toArray listed = [] ∧ Q .normal a w
  | f + 1, listed, a, w => (Region.ready md l.toArray listed = [] → Q .normal a w) ∧
    ∀ i ∈ Region.ready md l.toArray listed, wpOp P l.toArray Q i (fun a' w' => (i ≠ n → S w') ∧ wpAnyU P md l Q S n f (listed.setIfInBounds i true) a' w') a w
theorem wpAny_of_U : ∀ (f : Nat) (listed : Array Bool) (a : Act) (w : World), wpAnyU P md l Q S n f listed a w → wpAny P md l.toArray Q f listed a w
  | 0, _, _, _, h => h
  | f + 1, _, _, _, h => ⟨h.1, fun i hi => wpOp_mono (fun a' w' h' => wpAny_of_U f _ a' w' h'.2) (h.2 i hi)⟩
/-- Who waits for all is behind who has not come up. -/
theorem last_waits {listed : Array Bool} (hs : Region.sinkB md l.toArray n = true) (hc : Region.chainB md l.toArray n = true) (hn : n + 1 = l.length) (inv : HeadInv md l.toArray n listed) {i : Nat} (hi : i < n) (hun : listed.getD i true = false) : ∀ j ∈ Region.ready md l.toArray listed, j < n := fun j hj => by
  rcases Nat.lt_or_ge j n with h | h
  · exact h
  · exact absurd hj (tail_waits hs hc (by simp; omega) inv _ i rfl hi hun j h)
theorem wpAnyU_first {i : Nat} {oi : Oper} {v : Value} (hi : l[i]? = some oi) (hsel : ∀ (j : Nat) (o : Oper) cs b, l.toArray[j]? = some o → o.op ≠ .select cs b)
    (hs : Region.sinkB md l.toArray n = true) (hc : Region.chainB md l.toArray n = true) (hn : n + 1 = l.length) (hin : i < n)
    (hQ : ∀ c a w, Q (.panic c) (a.put oi.dst v) w → Q (.panic c) a w) :
    ∀ (f : Nat) (listed : Array Bool) (a : Act) (w : World), HeadInv md l.toArray n listed →
      (∀ j oj, l.toArray[j]? = some oj → j ≠ i → listed.getD j true = false → (∀ e ∈ oj.after, Region.binds md e = true → e.on ≠ i) → oi.apart l.toArray oj = true) →
      i ∈ Region.ready md l.toArray listed → YieldsIf P l.toArray S oi v a → S w →
      wpAnyU P md l Q S n f (listed.setIfInBounds i true) (a.put oi.dst v) w → wpAnyU P md l Q S n (f + 1) listed a w := by
  have hi' : l.toArray[i]? = some oi := by simpa using hi
  intro f
  induction f with
  | zero =>
    intro listed a w inv _ hr hy hS H
    refine ⟨fun h => (by rw [h] at hr; cases hr), fun j hj => ?_⟩
    by_cases hji : j = i
    · subst hji
      exact hy.wpOp hi' hS ⟨fun _ => hS, H⟩
    · have := ready_mono hj hji
      rw [H.1] at this
      cases this
  | succ f ih =>
    intro listed a w inv hfree hr hy hS H
    have hun := (mem_ready.1 hr).1
    refine ⟨fun h => (by rw [h] at hr; cases hr), fun j hj => ?_⟩
    by_cases hji : j = i
    · subst hji
      exact hy.wpOp hi' hS ⟨fun _ => hS, H⟩
    · have hjn := last_waits hs hc hn inv hin hun j hj
      have h1 := H.2 j (ready_mono hj hji)
      obtain ⟨hjun, oj, hoj, hall⟩ := mem_ready.1 hj
      have hnot : ∀ e ∈ oj.after, Region.binds md e = true → e.on ≠ i := fun e he hb heq => by
        have h3 := hall e he hb
        rw [heq, getD_both hun] at h3
        cases h3
      have h2 := wpOp_putIf hoj (hfree j oj hoj hji hjun hnot) (fun cs b => hsel i oi cs b hi') (fun cs b => hsel j oj cs b hoj) hQ hy h1
      refine wpOp_mono (fun a' w' h3 => ⟨h3.2.1, ih (listed.setIfInBounds j true) a' w' (inv.set hj hjn) ?_ (ready_mono hr (Ne.symm hji)) h3.1 (h3.2.1 (by omega)) ?_⟩) h2
      · intro k ok hk hki hu hno
        refine hfree k ok hk hki ?_ hno
        by_cases hjk : j = k
        · subst hjk
          exact hjun
        · rw [getD_set_ne true hjk] at hu
          exact hu
      · rw [Array.setIfInBounds_comm _ _ hji]
        exact h3.2.2
/-- The state of a walk through the region: who has come up, and what holds. -/
structure AtU (P : Program) (md : Region.Mode) (l : List Oper) (Q : Exit → Act → World → Prop) (S : World → Prop) (n f : Nat) (listed : Array Bool) (a : Act) (w : World) : Prop where
  go : HeadInv md l.toArray n listed → S w → wpAnyU P md l Q S n f listed a w
/-- What the region is, once. -/
def okU (md : Region.Mode) (l : List Oper) (n : Nat) : Bool := Region.noSelect l.toArray && Region.sinkB md l.toArray n && Region.chainB md l.toArray n && decide (n + 1 = l.length)
theorem AtU.take {i f : Nat} {oi : Oper} {v : Value} {listed : Array Bool} {a : Act} {w : World} (hi : l[i]? = some oi) (hok : okU md l n = true) (hf : (decide (i < n) && Region.free md l.toArray listed i && (Region.ready md l.toArray listed).contains i) = true)
    (hQ : ∀ c a w, Q (.panic c) (a.put oi.dst v) w → Q (.panic c) a w) (hw : Region.wanted oi (yielded l.toArray a.tmps) = true) (hy : ∀ w, S w → (execOp a.eval oi).run P w = .ok (.value v) w)
    (h : AtU P md l Q S n f (listed.setIfInBounds i true) (a.put oi.dst v) w) : AtU P md l Q S n (f + 1) listed a w := by
  simp only [okU, Bool.and_eq_true, decide_eq_true_eq] at hok hf
  obtain ⟨⟨⟨h1, h2⟩, h3⟩, h4⟩ := hok
  obtain ⟨⟨h5, h6⟩, h7⟩ := hf
  have hr : i ∈ Region.ready md l.toArray listed := by simpa using h7
  exact ⟨fun inv hS => wpAnyU_first hi (Region.noSelect_spec h1) h2 h3 h4 h5 hQ f listed a w inv (Region.free_spec (by simpa using hi) h6) hr (.inl ⟨hw, hy⟩) hS (h.go (inv.set hr h5) hS)⟩
/-- One alone may come up. -/
theorem AtU.step {i f : Nat} {o : Oper} {listed : Array Bool} {a : Act} {w : World} (hi : l[i]? = some o) (hr : (decide (Region.ready md l.toArray listed = [i]) && decide (i < n)) = true)
    (h : ∀ K' : Act → World → Prop, Shut (∀ a' w', S w' → AtU P md l Q S n f (listed.setIfInBounds i true) a' w' → K' a' w') → if Region.wanted o (yielded l.toArray a.tmps) = true then Oper.wp P o a w K' Q else K' (a.put o.dst undef) w) : AtU P md l Q S n (f + 1) listed a w := by
  simp only [Bool.and_eq_true, decide_eq_true_eq] at hr
  refine ⟨fun inv hS => ⟨fun h0 => (by rw [hr.1] at h0; cases h0), fun j hj => ?_⟩⟩
  have hjr := hj
  rw [hr.1] at hj
  have : j = i := by simpa using hj
  subst this
  exact wpOp_step (o := o) (by simpa using hi) (fun K' hK => h K' (fun a' w' hS' hA => hK a' w' ⟨fun _ => hS', hA.go (inv.set hjr hr.2) hS'⟩))
/-- The last one. -/
theorem AtU.last {i : Nat} {o : Oper} {listed : Array Bool} {a : Act} {w : World} (hi : l[i]? = some o) (hr : (decide (Region.ready md l.toArray listed = [i]) && (Region.ready md l.toArray (listed.setIfInBounds i true)).isEmpty && decide (i = n)) = true)
    (h : ∀ K' : Act → World → Prop, Shut (∀ a' w', Q .normal a' w' → K' a' w') → if Region.wanted o (yielded l.toArray a.tmps) = true then Oper.wp P o a w K' Q else K' (a.put o.dst undef) w) : AtU P md l Q S n 1 listed a w := by
  simp only [Bool.and_eq_true, decide_eq_true_eq, List.isEmpty_iff] at hr
  refine ⟨fun inv hS => ⟨fun h0 => (by rw [hr.1.1] at h0; cases h0), fun j hj => ?_⟩⟩
  rw [hr.1.1] at hj
  have : j = i := by simpa using hj
  subst this
  exact wpOp_step (o := o) (by simpa using hi) (fun K' hK => h K' (fun a' w' hq => hK a' w' ⟨fun hne => absurd hr.2 hne, hr.1.2, hq⟩))
/-- The beginning. -/
theorem wp_region_U {id : Nat} {a : Act} {w : World} (n : Nat) (S : World → Prop) (hm : P.follows .mixedOrders = true) (hS : S w.drew) (h : AtU P .any l Q S n l.length (Array.replicate l.length false) a w.drew) : (Code.region id l.toArray true).wp P Q a w := by
  refine wp_region_any hm (wpAny_of_U (n := n) (S := S) _ _ _ _ ?_)
  have := h.go ⟨by simp, fun j oj _ hl => (by rw [getD_replicate_false] at hl; cases hl), fun t _ ht => getD_in (by simpa using ht) (getD_replicate_false _ _)⟩ hS
  simpa using this
end
end Go.Proofs.Ytpnkhgjjlionnaa
namespace Go.Proofs.Ytpnkhgjjlionnaa
open Go.RowKit

theorem below_d {B : Nat} {w a : World} (h : Below B w a) : Below B w a.drew := ⟨h.os, h.tape, h.output, h.size, h.block⟩
end Go.Proofs.Ytpnkhgjjlionnaa
namespace Go.Proofs.Ytpnkhgjjlionnaa
open Go.RowKit Go.Maps

theorem infoTriEM : (Try.prog.info? 61).map (fun i => (i.zero, i.size, i.bytes)) = some (some (.agg #[.int .i64 0, .int .i64 0, .int .i64 0]), 3, 24) := by kernel_rfl
theorem own_one_triM {W : World} {base g : Nat} {a b c : Value} (h : Blk W g 61 #[a, b, c]) (hb : base ≤ g) : W.ownsRow base 61 3 (.slice (some ⟨g, 0, none⟩) 1 1) 1 [a, b, c] := ⟨rfl, .inr ⟨g, 1, #[a, b, c], rfl, hb, h, Nat.le_refl _, by decide, rfl, rfl⟩⟩
/-- What is made so far: the soup at b4, the results' cells at b2. -/
structure EaStM (w W : World) (b2 b4 : Nat) (N : Int) (T : List Tr) (vT : Value) : Prop where
  k2 : Blk W b2 24 #[.int .i64 0, .slice none 0 0]
  k4 : Blk W b4 24 #[.int .i64 N, vT]
  rT : W.ownsRow w.heap.size 61 3 vT T.length (ws3 T)
  bel : Below w.heap.size w W
  l2 : w.heap.size ≤ b2
  l4 : w.heap.size ≤ b4
  ne : b2 ≠ b4
section
variable {w W W' w4 : World} {b2 b4 : Nat} {N N' : Int} {T : List Tr} {vT : Value}
theorem EaStM.below (h : EaStM w W b2 b4 N T vT) (hb : Below W.heap.size W W') : EaStM w W' b2 b4 N T vT :=
  ⟨h.k2.below hb h.k2.lt, h.k4.below hb h.k4.lt, own_below h.rT hb, h.bel.trans (hb.mono h.bel.size), h.l2, h.l4, h.ne⟩
theorem EaStM.alloc (h : EaStM w W b2 b4 N T vT) (o : Obj) : EaStM w (W.alloc o) b2 b4 N T vT := h.below ((Below.refl _ _).alloc (Nat.le_refl _) _)
theorem EaStM.drew (h : EaStM w W b2 b4 N T vT) : EaStM w W.drew b2 b4 N T vT := h.below (below_d (Below.refl _ _))
theorem EaStM.app (h : EaStM w W b2 b4 N T vT) (hg : W.grownBy w4 vT.ownBlock) {v4 : Value} {T4 : List Tr} (hr : w4.ownsRow w.heap.size 61 3 v4 T4.length (ws3 T4)) :
    Blk w4 b4 24 #[.int .i64 N, vT] ∧ EaStM w (w4.setCell ⟨b4, 1, none⟩ v4) b2 b4 N T4 v4 := by
  have c4 := h.k4.grown hg (fun e => own_blk_ne h.rT h.k4 (by decide) e.symm)
  have c2 := h.k2.grown hg (fun e => own_blk_ne h.rT h.k2 (by decide) e.symm)
  have hS : w4.grownBy (w4.setCell ⟨b4, 1, none⟩ v4) (some b4) := gStR (World.grownBy.refl _ _)
  exact ⟨c4, ⟨c2.far (p := ⟨b4, 1, none⟩) h.ne v4, by simpa using c4.set_ 1 v4, hr.kept hS (.inr (own_blk_ne hr c4 (by decide))), (h.bel.grown hg h.bel.size (fun j e => (h.rT.lt j e).1)).setCell h.l4 _, h.l2, h.l4, h.ne⟩⟩
end
set_option maxRecDepth 100000 in
set_option maxHeartbeats 4000000 in
theorem eachM_any (N : Int) (v : Value) (T : List Tr) (lb : Array Value) (F : Tr → Tr) (w : World) (h : TrisRd w v T) (hl : T.length ≤ 8192)
    (hp : ∀ (W : World) (t : Tr), t ∈ T → Below w.heap.size w W → Calls Try.prog 32 (#[.agg #[.int .i64 t.1, .int .i64 t.2.1, .int .i64 t.2.2]] ++ lb) W fun e W' => e = .returned (.agg #[.int .i64 (F t).1, .int .i64 (F t).2.1, .int .i64 (F t).2.2]) ∧ Below W.heap.size W W') :
    Calls Try.prog 31 #[.agg #[.int .i64 N, v], .func (.func 32) #[] lb] w fun e w' => ∃ vT, e = .returned (.agg #[.int .i64 N, vT]) ∧ w'.ownsRow w.heap.size 61 3 vT T.length (ws3 (T.map F)) ∧ Below w.heap.size w w' := by
  have HV := Lib.hid (fun (W : World) (hW : Below w.heap.size w W) => h.below hW)
  obtain ⟨aL, cL, rfl, -, -, hrd⟩ := h
  obtain ⟨n, hn⟩ : ∃ n, T.length = n := ⟨_, rfl⟩
  obtain ⟨i0, hi, hz0, hz1, hz2⟩ := info_parts infoTriEM
  have HP := Lib.hid hp
  rw [hn] at hl ⊢
  have b0 := (((Blk.new w 24 #[.int .i64 N, .slice aL n cL]).alloc (.cells #[.int .i64 0, .slice none 0 0] 24)).alloc (.cells #[.int .i64 N, .slice none 0 0] 24))
  have hI0 : EaStM w (((w.alloc (.cells #[.int .i64 N, .slice aL n cL] 24)).alloc (.cells #[.int .i64 0, .slice none 0 0] 24)).alloc (.cells #[.int .i64 N, .slice none 0 0] 24)) (w.heap.size + 1) (w.heap.size + 1 + 1) N [] (.slice none 0 0) :=
    ⟨(blk_new_at (by simp)).alloc _, blk_new_at (by simp), World.ownsRow_nil _ _ _ _, (((Below.refl _ _).alloc (Nat.le_refl _) _).alloc (by simp) _).alloc (by simp; omega) _, by omega, by omega, by omega⟩
  have HI0 := Lib.hid hI0
  have HB0 := Lib.hid b0
  have Hn := Lib.hid hn
  clear hI0 hrd hn hp b0
  go_enter Try.func31, Try.ntmps31
  go_wp2
  go_loopw [14] (fun i wr => ∃ k : Nat, k ≤ n ∧ i = .int .i64 k ∧ ∃ vS, EaStM w wr (w.heap.size + 1) (w.heap.size + 1 + 1) N ((T.take k).map F) vS) (fun i _ => n - (intOf i).toNat)
  case atStart => exact ⟨0, Nat.zero_le _, rfl, _, HI0.out⟩
  case round =>
    rename World => wr
    obtain ⟨k, hk, rfl, vS, hI⟩ := hrel
    by_cases hlt : k < n
    · have hkl : k < T.length := by rw [Hn.out]; exact hlt
      obtain ⟨⟨px, py, pz⟩, hp⟩ : ∃ t, T[k]? = some t := ⟨T[k], List.getElem?_eq_getElem hkl⟩
      obtain ⟨a', c', e', -, -, hr⟩ := HV.out wr hI.bel
      rw [Hn.out] at e'
      cases e'
      obtain ⟨bT, oT, rfl, hbT, s0, s1, s2⟩ := hr k px py pz hp
      have hki : (k : Int) < (n : Int) := by omega
      have HI := Lib.hid hI
      have bq := Blk.new wr 61 #[.int .i64 px, .int .i64 py, .int .i64 pz]
      have hI' := hI.alloc (.cells #[.int .i64 px, .int .i64 py, .int .i64 pz] 61)
      have HPc := Lib.hid (HP.out (wr.alloc (.cells #[.int .i64 px, .int .i64 py, .int .i64 pz] 61)).drew (px, py, pz) (List.mem_of_getElem? hp) (below_d (hI.bel.alloc hI.bel.size _)))
      clear hI
      go_upto_region 5 with fail
      refine wp_region_U 8 (fun w' => w'.cell? ⟨w.heap.size + 1 + 1, 1, none⟩ = some vS ∧ w'.cell? ⟨wr.heap.size, 0, none⟩ = some (.int .i64 px) ∧ w'.cell? ⟨wr.heap.size, 1, none⟩ = some (.int .i64 py) ∧ w'.cell? ⟨wr.heap.size, 2, none⟩ = some (.int .i64 pz)) (by kernel_rfl) ⟨hI'.drew.k4.cell 1, bq.drew.cell 0, bq.drew.cell 1, bq.drew.cell 2⟩ ?_
      change AtU _ _ _ _ _ _ 9 (Array.replicate 9 false) _ _
      refine AtU.take (i := 0) (v := ?_) rfl (by kernel_rfl) (by kernel_rfl) (fun _ _ _ h => h) (by rfl) ?_ ?_
      rotate_left 1
      · intro w9 hSw; (try dsimp only at hSw); go_simp; try with_reducible rfl
      try simp only [Act.put, List.setIfInBounds_toArray, List.set_cons_zero, List.set_cons_succ]
      refine AtU.take (i := 1) (v := ?_) rfl (by kernel_rfl) (by kernel_rfl) (fun _ _ _ h => h) (by rfl) ?_ ?_
      rotate_left 1
      · intro w9 hSw; (try dsimp only at hSw); go_simp; try with_reducible rfl
      try simp only [Act.put, List.setIfInBounds_toArray, List.set_cons_zero, List.set_cons_succ]
      refine AtU.take (i := 2) (v := ?_) rfl (by kernel_rfl) (by kernel_rfl) (fun _ _ _ h => h) (by rfl) ?_ ?_
      rotate_left 1
      · intro w9 hSw; (try dsimp only at hSw); go_simp; try with_reducible rfl
      try simp only [Act.put, List.setIfInBounds_toArray, List.set_cons_zero, List.set_cons_succ]
      refine AtU.take (i := 3) (v := ?_) rfl (by kernel_rfl) (by kernel_rfl) (fun _ _ _ h => h) (by rfl) ?_ ?_
      rotate_left 1
      · intro w9 hSw; (try dsimp only at hSw); go_simp; try with_reducible rfl
      try simp only [Act.put, List.setIfInBounds_toArray, List.set_cons_zero, List.set_cons_succ]
      refine AtU.step (i := 4) rfl (by kernel_rfl) (fun K hK => ?_)
      go_wp2_with (go_at_call 32; go_loud (refine (HPc.out).mono ?_; rintro e w5 ⟨rfl, hb5⟩))
      have H5 := (hI'.drew.below hb5)
      have B5 := bq.drew.below hb5 (by simp)
      refine hK.out _ _ ⟨H5.k4.cell 1, B5.cell 0, B5.cell 1, B5.cell 2⟩ ?_
      clear hK K
      try simp only [Act.put, List.setIfInBounds_toArray, List.set_cons_zero, List.set_cons_succ]
      refine AtU.step (i := 5) rfl (by kernel_rfl) (fun K hK => ?_)
      go_simp
      have H6 := H5.alloc (.cells #[.int .i64 (F (px, py, pz)).1, .int .i64 (F (px, py, pz)).2.1, .int .i64 (F (px, py, pz)).2.2] 61)
      have B6 := B5.alloc (.cells #[.int .i64 (F (px, py, pz)).1, .int .i64 (F (px, py, pz)).2.1, .int .i64 (F (px, py, pz)).2.2] 61)
      have N6 := own_one_triM (Blk.new w5 61 #[.int .i64 (F (px, py, pz)).1, .int .i64 (F (px, py, pz)).2.1, .int .i64 (F (px, py, pz)).2.2]) (Nat.le_refl _)
      refine hK.out _ _ ⟨H6.k4.cell 1, B6.cell 0, B6.cell 1, B6.cell 2⟩ ?_
      clear hK K
      try simp only [Act.put, List.setIfInBounds_toArray, List.set_cons_zero, List.set_cons_succ]
      refine AtU.step (i := 6) rfl (by kernel_rfl) (fun K hK => ?_)
      obtain ⟨S9, hS9⟩ : ∃ S9, (T.take k).map F = S9 := ⟨_, rfl⟩
      have hl9 : S9.length ≤ 8192 := by rw [← hS9, List.length_map, List.length_take]; have := Hn.out; omega
      have HS9 := Lib.hid (show (T.take (k + 1)).map F = S9 ++ [F (px, py, pz)] from by
        rw [List.take_succ_eq_append_getElem hkl, List.map_append, hS9]
        have : T[k] = (px, py, pz) := by rw [List.getElem?_eq_getElem hkl] at hp; exact Option.some.inj hp
        rw [this]
        rfl)
      rw [hS9] at H6
      refine step_append_any _ (by rfl) (.tmp 19) (.tmp 23) 22 (by rfl) w.heap.size 61 i0 _ 3 24 Try.underlying22 hi hz0 hz1 hz2 (by rfl) (by decide) vS S9.length (ws3 S9) (by rfl) H6.rT w5.heap.size (.slice (some ⟨w5.heap.size, 0, none⟩) 1 1) 1 _ (by rfl) N6 (by simp [Value.oneCell']) (by unfold maxLen; omega) (by omega) H6.bel.size ?_
      intro v8 W8 hr8 hg8 hat8
      obtain ⟨a8, c8, rfl⟩ := ownsRow_slice hr8
      have h9 := H6.app hg8 (T4 := S9 ++ [F (px, py, pz)]) (v4 := .slice a8 (S9.length + 1) c8) (by rw [ws3_snoc, List.length_append]; exact hr8)
      obtain ⟨lx8, y0, r0, y1, r1⟩ := h9.1.two
      have B9 := B6.grown hg8 (fun e => absurd (HI.out.rT.lt _ e.symm).2 (Nat.lt_irrefl _))
      refine hK.out _ _ ⟨h9.1.cell 1, B9.cell 0, B9.cell 1, B9.cell 2⟩ ?_
      clear hK K
      try simp only [Act.put, List.setIfInBounds_toArray, List.set_cons_zero, List.set_cons_succ]
      refine AtU.take (i := 7) (v := ?_) rfl (by kernel_rfl) (by kernel_rfl) (fun _ _ _ h => h) (by rfl) ?_ ?_
      rotate_left 1
      · intro w9 hSw; (try dsimp only at hSw); go_simp; try with_reducible rfl
      try simp only [Act.put, List.setIfInBounds_toArray, List.set_cons_zero, List.set_cons_succ]
      refine AtU.last (i := 8) rfl (by kernel_rfl) (fun K hK => ?_)
      go_simp
      refine hK.out _ _ ?_
      clear hK K
      have HF9 := Lib.hid h9.2
      generalize W8.setCell ⟨w.heap.size + 1 + 1, 1, none⟩ _ = W9 at *
      clear y0 r0 y1 r1 lx8 hr8 hg8 hat8 h9 B9 H6 B6 N6 H5 B5 hI' bq hb5
      go_wp2
      go_roundw
      case measure => simp [intOf]; omega
      case rel => exact ⟨k + 1, by omega, by go_num, _, by rw [HS9.out]; exact HF9.out⟩
    · obtain rfl : k = n := by omega
      rw [List.take_of_length_le (by rw [Hn.out]; exact Nat.le_refl _)] at hI
      obtain ⟨aS, cS, hvS⟩ := ownsRow_slice hI.rT
      subst hvS
      have hln : (T.map F).length = k := by rw [List.length_map, Hn.out]
      rw [hln] at hI
      have HI := Lib.hid hI
      obtain ⟨l4, y0, f0, y1, f1⟩ := hI.k4.two
      obtain ⟨l2, z0, q0, z1, q1⟩ := hI.k2.two
      have hB2 := (hI.k2.set_ 0 (.int .i64 N)).set_ 1 (.slice aS k cS)
      have HF := Lib.hid (And.intro (show Blk _ (w.heap.size + 1) 24 #[.int .i64 N, .slice aS k cS] from by simpa using hB2) (And.intro (own_alloc_st (i := 1) (u := .slice aS k cS) (own_alloc_st (i := 0) (u := .int .i64 N) (hln ▸ hI.rT) hI.k2 (by decide)) (hI.k2.set_ 0 (.int .i64 N)) (by decide)) ((hI.bel.setCell (p := ⟨w.heap.size + 1, 0, none⟩) (by simp) (.int .i64 N)).setCell (p := ⟨w.heap.size + 1, 1, none⟩) (by simp) (.slice aS k cS))))
      clear hI hB2
      go_wp2
      obtain ⟨hb2, hr2, hbel⟩ := HF.out
      obtain ⟨-, p0, -, p1, -⟩ := hb2.two
      refine bodyPost_ret (v := .agg #[.int .i64 N, .slice aS k cS]) (by simp [results, Try.results31, go_sem, p0, p1]) rfl ?_
      exact ⟨_, rfl, hr2, hbel⟩
end Go.Proofs.Ytpnkhgjjlionnaa
namespace Go.Proofs.Ytpnkhgjjlionnaa
open Go.RowKit Go.Maps

theorem own_lower9 {w : World} {base base' : Nat} {e : TypeId} {size n : Nat} {v : Value} {xs : List Value} (h : w.ownsRow base e size v n xs) (hb : base' ≤ base) : w.ownsRow base' e size v n xs := by
  refine ⟨h.1, ?_⟩
  rcases h.2 with hn | ⟨g, cap, cur, rfl, hb1, rest⟩
  · exact .inl hn
  · exact .inr ⟨g, cap, cur, rfl, Nat.le_trans hb hb1, rest⟩
end Go.Proofs.Ytpnkhgjjlionnaa
namespace Go.Proofs.Ytpnkhgjjlionnaa
open Go.RowKit Go.Maps

set_option maxRecDepth 100000 in
theorem mir1_any (t : Tr) (W : World) :
    Calls Try.prog 32 #[.agg #[.int .i64 t.1, .int .i64 t.2.1, .int .i64 t.2.2]] W fun e W' => e = .returned (.agg #[.int .i64 (mirT t).1, .int .i64 (mirT t).2.1, .int .i64 (mirT t).2.2]) ∧ Below W.heap.size W W' := by
  obtain ⟨x, y, z⟩ := t
  show Calls Try.prog 32 #[.agg #[.int .i64 x, .int .i64 y, .int .i64 z]] W fun e W' => e = .returned (.agg #[.int .i64 x, .int .i64 z, .int .i64 y]) ∧ Below W.heap.size W W'
  have b0 := (Blk.new W 61 #[.int .i64 x, .int .i64 y, .int .i64 z]).alloc (.cells #[.int .i64 0, .int .i64 0, .int .i64 0] 61)
  have b1 : Blk ((W.alloc (.cells #[.int .i64 x, .int .i64 y, .int .i64 z] 61)).alloc (.cells #[.int .i64 0, .int .i64 0, .int .i64 0] 61)) (W.heap.size + 1) 61 #[.int .i64 0, .int .i64 0, .int .i64 0] := blk_new_at (by simp)
  have hB : Below W.heap.size W ((W.alloc (.cells #[.int .i64 x, .int .i64 y, .int .i64 z] 61)).alloc (.cells #[.int .i64 0, .int .i64 0, .int .i64 0] 61)) := ((Below.refl _ _).alloc (Nat.le_refl _) _).alloc (by simp) _
  obtain ⟨l0, s0, f0, s1, f1, s2, f2⟩ := b0.three
  obtain ⟨l1, u0, g0, u1, g1, u2, g2⟩ := b1.three
  have ix0 := @index_t0
  have ix1 := @index_t1
  have ix2 := @index_t2
  clear hB b0 b1
  go_enter Try.func32, Try.ntmps32
  go_wp2
  have hF2 : Blk ((W.alloc (.cells #[.int .i64 x, .int .i64 y, .int .i64 z] 61)).alloc (.cells #[.int .i64 x, .int .i64 z, .int .i64 y] 61)) (W.heap.size + 1) 61 #[.int .i64 x, .int .i64 z, .int .i64 y] := blk_new_at (by simp)
  obtain ⟨-, p0, -, p1, -, p2, -⟩ := hF2.three
  refine bodyPost_ret (v := .agg #[.int .i64 x, .int .i64 z, .int .i64 y]) (by simp [results, Try.results32, go_sem, p0, p1, p2]) rfl ?_
  exact ⟨rfl, ((Below.refl _ _).alloc (Nat.le_refl _) _).alloc (by simp) _⟩
set_option maxRecDepth 100000 in
theorem mirror_any (N : Int) (v : Value) (T : List Tr) (w : World) (h : TrisRd w v T) (hl : T.length ≤ 8192) :
    Calls Try.prog 12 #[.agg #[.int .i64 N, v]] w fun e w' => ∃ vT, e = .returned (.agg #[.int .i64 N, vT]) ∧ w'.ownsRow w.heap.size 61 3 vT T.length (ws3 (T.map mirT)) ∧ Below w.heap.size w w' := by
  have b0 := (Blk.new w 24 #[.int .i64 N, v]).alloc (.cells #[.int .i64 0, .slice none 0 0] 24)
  have b1 : Blk ((w.alloc (.cells #[.int .i64 N, v] 24)).alloc (.cells #[.int .i64 0, .slice none 0 0] 24)) (w.heap.size + 1) 24 #[.int .i64 0, .slice none 0 0] := blk_new_at (by simp)
  have hB : Below w.heap.size w ((w.alloc (.cells #[.int .i64 N, v] 24)).alloc (.cells #[.int .i64 0, .slice none 0 0] 24)) := ((Below.refl _ _).alloc (Nat.le_refl _) _).alloc (by simp) _
  have HE := Lib.hid (eachM_any N v T #[] mirT _ (h.below hB) hl (fun W t _ _ => mir1_any t W))
  obtain ⟨aT, cT, rfl, -⟩ := h
  obtain ⟨F, hF⟩ : ∃ F, T.length = F := ⟨_, rfl⟩
  rw [hF] at HE b0 b1 hB ⊢
  obtain ⟨l0, s0, f0, s1, f1⟩ := b0.two
  have HB := Lib.hid hB
  have HK := Lib.hid b1
  clear b0 b1 hB hF
  go_enter Try.func12, Try.ntmps12
  go_wp2_with (go_at_call 31; refine HE.out.mono ?_; rintro e w3 ⟨vT, rfl, hrT, hb3⟩; obtain ⟨a9, c9, rfl⟩ := ownsRow_slice hrT; obtain ⟨l2, z0, g0, z1, g1⟩ := (HK.out.below hb3 HK.out.lt).two)
  have h2 := HK.out.below hb3 HK.out.lt
  have hK := (h2.set_ 0 (.int .i64 N)).set_ 1 (.slice a9 F c9)
  have hK2 : Blk ((w3.setCell ⟨w.heap.size + 1, 0, none⟩ (.int .i64 N)).setCell ⟨w.heap.size + 1, 1, none⟩ (.slice a9 F c9)) (w.heap.size + 1) 24 #[.int .i64 N, .slice a9 F c9] := by simpa using hK
  obtain ⟨-, p0, -, p1, -⟩ := hK2.two
  refine bodyPost_ret (v := .agg #[.int .i64 N, .slice a9 F c9]) (by simp [results, Try.results12, go_sem, p0, p1]) rfl ?_
  have hsz := HB.out.size
  exact ⟨_, rfl, own_lower9 (own_alloc_st (i := 1) (u := .slice a9 F c9) (own_alloc_st (i := 0) (u := .int .i64 N) hrT h2 (by decide)) (h2.set_ 0 (.int .i64 N)) (by decide)) hsz, ((HB.out.trans (hb3.mono hsz)).setCell (p := ⟨w.heap.size + 1, 0, none⟩) (by simp) _).setCell (p := ⟨w.heap.size + 1, 1, none⟩) (by simp) _⟩
end Go.Proofs.Ytpnkhgjjlionnaa
namespace Go.Proofs.Ytpnkhgjjlionnaa
open Go.RowKit Go.Maps

set_option maxRecDepth 100000 in
theorem great10_any (N : Int) (v : Value) (T : List Tr) (w : World) (h : TrisRd w v T) : Calls Try.prog 17 #[.agg #[.int .i64 N, v]] w fun e w' => ∃ g : Int, e = .returned (.int .i64 g) ∧ ((g = 0 ∧ T.length ≤ 40 ∧ N ≤ 60) ∨ g = 1) ∧ Below w.heap.size w w' := by
  have b1 := Blk.new w 24 #[.int .i64 N, v]
  have hB0 : Below w.heap.size w (w.alloc (.cells #[.int .i64 N, v] 24)) := (Below.refl _ _).alloc (Nat.le_refl _) _
  obtain ⟨a, cT, rfl, -⟩ := h
  obtain ⟨n, hn⟩ : ∃ n, T.length = n := ⟨_, rfl⟩
  rw [hn] at b1 hB0 ⊢
  obtain ⟨l0, x0, -, x1, -⟩ := b1.two
  have HB := Lib.hid hB0
  clear hn b1 hB0
  by_cases c0 : 40 < n
  · have d0 : (40 : Int) < (n : Int) := by omega
    go_enter Try.func17, Try.ntmps17
    go_wp2
    go_ret
    exact ⟨1, rfl, .inr rfl, HB.out⟩
  · have d0 : decide ((40 : Int) < (n : Int)) = false := by simp; omega
    by_cases c1 : 60 < N
    · go_enter Try.func17, Try.ntmps17
      go_wp2
      go_ret
      exact ⟨1, rfl, .inr rfl, HB.out⟩
    · have d1 : decide (60 < N) = false := by simp; omega
      by_cases c2 : N < -1000
      · go_enter Try.func17, Try.ntmps17
        go_wp2
        go_ret
        exact ⟨1, rfl, .inr rfl, HB.out⟩
      · have d2 : decide (N < -1000) = false := by simp; omega
        have HF := Lib.hid (show n ≤ 40 ∧ N ≤ 60 from by omega)
        clear c0 c1 c2
        go_enter Try.func17, Try.ntmps17
        go_wp2
        go_ret
        exact ⟨0, rfl, .inl ⟨rfl, HF.out.1, HF.out.2⟩, HB.out⟩
set_option maxRecDepth 100000 in
set_option maxHeartbeats 1000000 in
theorem laid10_any (N : Int) (v : Value) (T : List Tr) (w : World) (h : TrisRd w v T) : Calls Try.prog 9 #[.agg #[.int .i64 N, v]] w fun e w' => (e = .returned (.pointer none) ∨ ∃ g, e = .returned (.pointer (some ⟨g, 0, none⟩)) ∧ Tab w' g N T ∧ Surf N T ∧ T.length ≤ 40 ∧ N ≤ 60) ∧ Below w.heap.size w w' := by
  have b1 := Blk.new w 24 #[.int .i64 N, v]
  have hB0 : Below w.heap.size w (w.alloc (.cells #[.int .i64 N, v] 24)) := (Below.refl _ _).alloc (Nat.le_refl _) _
  have HG := Lib.hid (great10_any N v T _ (h.below hB0))
  have HN := Lib.hid (fun (W : World) (hW : Below w.heap.size w W) (hl : T.length ≤ 40) => new_any N v T W (h.below hW) (by omega))
  obtain ⟨a, cT, rfl, -⟩ := h
  obtain ⟨l0, x0, -, x1, -⟩ := b1.two
  have HB := Lib.hid hB0
  have HK := Lib.hid b1
  clear b1 hB0
  go_enter Try.func9, Try.ntmps9
  go_upto_if 7 with (go_at_call 17; go_loud (with_reducible refine HG.out.mono ?_; rintro e w1 ⟨g, rfl, hg, hb⟩))
  have hBw := HB.out.trans (hb.mono HB.out.size)
  obtain ⟨l1, y0, -, y1, -⟩ := (HK.out.below hb l0).two
  have HBw := Lib.hid hBw
  clear hb hBw x0 x1
  rcases hg with ⟨rfl, hl, hN⟩ | rfl
  · have HNw := Lib.hid (HN.out w1 HBw.out hl)
    have HS := Lib.hid (And.intro hl hN)
    clear hl hN
    go_upto_region 4 with (go_at_call 22; go_loud (with_reducible refine HNw.out.mono ?_; rintro e w2 ⟨hcase, hb2⟩; obtain ⟨p, hp⟩ : ∃ (p : Option Addr) (cs : Int × Int × Int), e = .returned (.tuple #[.pointer p, .agg #[.int .i64 cs.1, .int .i64 cs.2.1, .int .i64 cs.2.2]]) ∧ (p = none ∨ ∃ g, p = some ⟨g, 0, none⟩ ∧ Tab w2 g N T ∧ Surf N T) := (by rcases hcase with ⟨hS, g, he, ht, -⟩ | ⟨-, k, a, b, -, he⟩; exact ⟨some ⟨g, 0, none⟩, (0, 0, 0), by rw [he]; unfold witV; rfl, .inr ⟨g, rfl, ht, hS⟩⟩; exact ⟨none, (k, a, b), by rw [he]; unfold witV; rfl, .inl rfl⟩); obtain ⟨⟨k1, k2, k3⟩, rfl, hp2⟩ := hp))
    have hA := (Below.refl w2.heap.size w2).alloc (Nat.le_refl _) (.cells #[.int .i64 k1, .int .i64 k2, .int .i64 k3] 44)
    have HBe := Lib.hid (HBw.out.trans ((hb2.trans (hA.mono hb2.size)).mono HBw.out.size))
    have HP := Lib.hid (show p = none ∨ ∃ g, p = some ⟨g, 0, none⟩ ∧ Tab (w2.alloc (.cells #[.int .i64 k1, .int .i64 k2, .int .i64 k3] 44)) g N T ∧ Surf N T from by
      rcases hp2 with h | ⟨g, h1, h2, h3⟩
      · exact .inl h
      · exact .inr ⟨g, h1, h2.below hA, h3⟩)
    clear hA hp2 hcase hb2
    go_wp2
    go_ret
    refine ⟨?_, HBe.out⟩
    rcases HP.out with h | ⟨g, h1, h2, h3⟩
    · exact .inl (by rw [h]; rfl)
    · exact .inr ⟨g, by rw [h1]; rfl, h2, h3, HS.out.1, HS.out.2⟩
  · go_wp2
    go_ret
    exact ⟨.inl rfl, HBw.out⟩
end Go.Proofs.Ytpnkhgjjlionnaa
namespace Go.Proofs.Ytpnkhgjjlionnaa
open Go.RowKit Go.Maps

def adjB (T : List Tr) (v : Int) (i k : Nat) : Bool := match T[i]?, T[k]? with
  | some a, some b => [a.1, a.2.1, a.2.2].any fun x => decide (x ≠ v) && (decide (x = b.1) || decide (x = b.2.1) || decide (x = b.2.2))
  | _, _ => false
theorem adjB_ok {T : List Tr} {v : Int} {i k : Nat} (h : adjB T v i k = true) : adjV T v i k := by
  unfold adjB at h
  split at h
  · rename_i a b ha hb
    rw [List.any_eq_true] at h
    obtain ⟨x, hx, h⟩ := h
    simp only [Bool.and_eq_true, Bool.or_eq_true, decide_eq_true_eq] at h
    refine ⟨a, b, x, ha, hb, h.1, ?_, ?_⟩
    · simp only [List.mem_cons, List.not_mem_nil, or_false] at hx
      unfold hasV
      rcases hx with rfl | rfl | rfl
      · exact .inl rfl
      · exact .inr (.inl rfl)
      · exact .inr (.inr rfl)
    · unfold hasV
      rcases h.2 with (h2 | h2) | h2
      · exact .inl h2
      · exact .inr (.inl h2)
      · exact .inr (.inr h2)
  · cases h
theorem connB {T : List Tr} {u : Int} (h : ((atV T u).all fun k => adjB T u ((atV T u).headD 0) k) = true) : ConnV T u (atV T u) := by
  intro S h0 hs k hk
  cases hl : atV T u with
  | nil => rw [hl] at hk; cases hk
  | cons a r =>
    rw [List.all_eq_true] at h
    have h1 := h k hk
    rw [hl] at h0 h1
    exact hs a (by rw [hl]; exact List.mem_cons_self ..) k hk (h0 a rfl) (adjB_ok h1)
def T46 : List Tr := [(0, 1, 2), (0, 2, 3), (0, 3, 1), (1, 3, 2)]
def W46 : List Tr := [(0, 1, 2), (3, 2, 1), (3, 0, 2), (3, 1, 0)]
theorem keysT46 : T46.flatMap key3 = [(0, 1, 2), (0, 2, 3), (0, 1, 3), (1, 2, 3)] := by
  simp [T46, key3, sort3, sortL, List.mergeSort, List.MergeSort.Internal.splitInTwo]
theorem keysW46 : W46.flatMap key3 = [(0, 1, 2), (1, 2, 3), (0, 2, 3), (0, 1, 3)] := by
  simp [W46, key3, sort3, sortL, List.mergeSort, List.MergeSort.Internal.splitInTwo]
theorem surfT46 : Surf 4 T46 where
  n0 := by decide
  n1 := by decide
  len := by decide
  inr := by unfold in3 inR; decide
  simple := by unfold simple3; decide
  twice := by decide
  mirrored := by rw [keysT46]; decide
  lonely := by
    intro u hu
    have h : u = 0 ∨ u = 1 ∨ u = 2 ∨ u = 3 := by unfold inR at hu; omega
    rcases h with rfl | rfl | rfl | rfl <;> decide
  pinch := by
    intro u hu
    have h : u = 0 ∨ u = 1 ∨ u = 2 ∨ u = 3 := by unfold inR at hu; omega
    rcases h with rfl | rfl | rfl | rfl <;> exact connB (by decide)
theorem surfW46 : Surf 4 W46 where
  n0 := by decide
  n1 := by decide
  len := by decide
  inr := by unfold in3 inR; decide
  simple := by unfold simple3; decide
  twice := by decide
  mirrored := by rw [keysW46]; decide
  lonely := by
    intro u hu
    have h : u = 0 ∨ u = 1 ∨ u = 2 ∨ u = 3 := by unfold inR at hu; omega
    rcases h with rfl | rfl | rfl | rfl <;> decide
  pinch := by
    intro u hu
    have h : u = 0 ∨ u = 1 ∨ u = 2 ∨ u = 3 := by unfold inR at hu; omega
    rcases h with rfl | rfl | rfl | rfl <;> exact connB (by decide)
/-- Four triangles, each across the first one. -/
theorem shl_four {T : List Tr} {out : List Int} (h : Shl T out) (hl : T.length = 4) {a b c : Nat} (h1 : oppI T 0 = (a : Int)) (h2 : oppI T 1 = (b : Int)) (h3 : oppI T 2 = (c : Int)) (ha : a / 3 = 1 ∨ b / 3 = 1 ∨ c / 3 = 1) (hb : a / 3 = 2 ∨ b / 3 = 2 ∨ c / 3 = 2) (hc : a / 3 = 3 ∨ b / 3 = 3 ∨ c / 3 = 3) : out = [0, 0, 0, 0] := by
  have e1 := h.adj 0 a (by omega) h1
  have e2 := h.adj 1 b (by omega) h2
  have e3 := h.adj 2 c (by omega) h3
  have e0 : at_ out 0 = 0 := by
    rcases h.new 0 (by omega) with ⟨i, hi, -⟩ | ⟨-, h0 | ⟨i, hi, -⟩⟩
    · omega
    · exact h0
    · omega
  have k1 : at_ out 1 = 0 := by
    rcases ha with e | e | e
    · rw [e] at e1; exact e1.trans e0
    · rw [e] at e2; exact e2.trans e0
    · rw [e] at e3; exact e3.trans e0
  have k2 : at_ out 2 = 0 := by
    rcases hb with e | e | e
    · rw [e] at e1; exact e1.trans e0
    · rw [e] at e2; exact e2.trans e0
    · rw [e] at e3; exact e3.trans e0
  have k3 : at_ out 3 = 0 := by
    rcases hc with e | e | e
    · rw [e] at e1; exact e1.trans e0
    · rw [e] at e2; exact e2.trans e0
    · rw [e] at e3; exact e3.trans e0
  have hlo := h.len
  rw [hl] at hlo
  match out, hlo with
  | [w, x, y, z], _ =>
    simp only [at_, List.getD] at e0 k1 k2 k3
    simp at e0 k1 k2 k3
    rw [e0, k1, k2, k3]
theorem shlT46 {out : List Int} (h : Shl T46 out) : out = [0, 0, 0, 0] := shl_four h rfl (a := 10) (b := 5) (c := 7) (by decide) (by decide) (by decide) (by decide) (by decide) (by decide)
theorem rtT46 : rtL T46 4 = [4, 8, 1, 9] := by decide
theorem rnT46 : rtN T46 4 = ([2, 3, 0, 1], W46) := by decide
theorem cnt46 {m : Nat} (h : (m : Int) = cntL [0, 0, 0, 0]) : m = 1 := by
  have : cntL [0, 0, 0, 0] = 1 := by decide
  omega
theorem frmT46 : frmS T46 [0, 0, 0, 0] 1 = (4, W46) := by decide
theorem frmW46 : frmS W46 [0, 0, 0, 0] 1 = (4, W46) := by decide
theorem formT46 {S : Int × List Tr} {O : List Int} (h : FormIs T46 S O) : S = (4, W46) := by
  obtain ⟨out, m, h1, h2, rfl, -⟩ := h
  rw [shlT46 h1] at h2 ⊢
  rw [cnt46 h2, frmT46]
theorem shl_make {T : List Tr} (hl : T.length = 4) (hr : ∀ j, j < 4 → Reach T 0 j) : Shl T [0, 0, 0, 0] := by
  have hat : ∀ j, j < 4 → at_ [0, 0, 0, 0] j = 0 := by
    intro j hj
    rcases (by omega : j = 0 ∨ j = 1 ∨ j = 2 ∨ j = 3) with rfl | rfl | rfl | rfl <;> rfl
  refine ⟨by rw [hl]; rfl, fun j hj => by rw [hat j (by omega)]; exact Int.le_refl _, fun c o hc ho => ?_, fun j hj => ?_⟩
  · have := (opp_some hc ho).1
    rw [hat _ (by omega), hat _ (by omega)]
  · by_cases h0 : j = 0
    · subst h0
      exact .inr ⟨fun i hi => absurd hi (Nat.not_lt_zero _), .inl rfl⟩
    · exact .inl ⟨0, by omega, by rw [hat 0 (by decide), hat j (by omega)], hr j (by omega)⟩
theorem reach_four {T : List Tr} (hl : T.length = 4) {a b c : Nat} (h1 : oppI T 0 = (a : Int)) (h2 : oppI T 1 = (b : Int)) (h3 : oppI T 2 = (c : Int)) (ha : a / 3 = 1 ∨ b / 3 = 1 ∨ c / 3 = 1) (hb : a / 3 = 2 ∨ b / 3 = 2 ∨ c / 3 = 2) (hc : a / 3 = 3 ∨ b / 3 = 3 ∨ c / 3 = 3) : ∀ j, j < 4 → Reach T 0 j := by
  have e1 : Reach T 0 (a / 3) := (Reach.refl T 0).step (c := 0) (by omega) h1
  have e2 : Reach T 0 (b / 3) := (Reach.refl T 0).step (c := 1) (by omega) h2
  have e3 : Reach T 0 (c / 3) := (Reach.refl T 0).step (c := 2) (by omega) h3
  intro j hj
  rcases (by omega : j = 0 ∨ j = 1 ∨ j = 2 ∨ j = 3) with rfl | rfl | rfl | rfl
  · exact Reach.refl T 0
  · rcases ha with e | e | e <;> rw [← e] <;> assumption
  · rcases hb with e | e | e <;> rw [← e] <;> assumption
  · rcases hc with e | e | e <;> rw [← e] <;> assumption
theorem formeq46 : FormEq 4 4 T46 W46 :=
  ⟨surfT46, surfW46, (4, W46), _, _,
    ⟨[0, 0, 0, 0], 1, shl_make rfl (reach_four rfl (a := 10) (b := 5) (c := 7) (by decide) (by decide) (by decide) (by decide) (by decide) (by decide)), by decide, frmT46.symm, rfl⟩,
    ⟨[0, 0, 0, 0], 1, shl_make rfl (reach_four rfl (a := 3) (b := 6) (c := 9) (by decide) (by decide) (by decide) (by decide) (by decide) (by decide)), by decide, frmW46.symm, rfl⟩⟩
theorem tris_blk {w : World} {g : Nat} {T : List Tr} (h : Blk w g 61 (ws3 T).toArray) (hT : T.length ≤ maxLen) : TrisRd w (.slice (some ⟨g, 0, none⟩) T.length T.length) T :=
  TrisRd.of_row (base := 0) ⟨ws3_len T, .inr ⟨g, T.length, (ws3 T).toArray, rfl, Nat.zero_le _, h, Nat.le_refl _, hT, by simp [ws3_len], by rw [← ws3_len]; simp⟩⟩
set_option maxRecDepth 100000 in
set_option maxHeartbeats 4000000 in
theorem awake46_any (w : World) : Calls Try.prog 8 #[] w fun e w' => e = .returned (.bool true) ∧ Below w.heap.size w w' := by
  have HNew := Lib.hid (fun (W : World) (v : Value) (hv : TrisRd W v T46) => (new_any 4 v T46 W hv (by decide)).mono (R' := fun e w' => ∃ g, e = .returned (.tuple #[.pointer (some ⟨g, 0, none⟩), .agg #[.int .i64 0, .int .i64 0, .int .i64 0]]) ∧ Tab w' g 4 T46 ∧ Below W.heap.size W w') (by
    rintro e w' ⟨⟨-, g, he, ht, -⟩ | ⟨hn, -⟩, hb⟩
    · exact ⟨g, he, ht, hb⟩
    · exact absurd surfT46 hn))
  have HFm := Lib.hid (fun (W : World) (v : Value) (hv : TrisRd W v T46) => (cform_two 4 v T46 W hv (by decide) (by decide)).mono (R' := fun e w' => ∃ aT cT aO nO cO, e = .returned (.tuple #[.agg #[.int .i64 4, .slice aT 4 cT], .slice aO nO cO, .int .i64 0]) ∧ TrisRd w' (.slice aT 4 cT) W46 ∧ Below W.heap.size W w') (by
    rintro e w' ⟨S, O, aT, cT, aO, cO, er, he, hT, -, -, ⟨rfl, -, hF⟩ | ⟨-, hn, -⟩, hb⟩
    · rw [formT46 hF] at he hT
      exact ⟨aT, cT, aO, _, cO, he, hT, hb⟩
    · exact absurd surfT46 hn))
  have HRt := Lib.hid (fun (W : World) (g : Nat) (ht : Tab W g 4 T46) => (rooted_any g 4 T46 W 4 ht (by decide)).mono (R' := fun e w' => ∃ aT cT gO cO gC cC, e = .returned (.tuple #[.agg #[.int .i64 4, .slice aT 4 cT], .slice (some ⟨gO, 0, none⟩) 4 cO, .slice (some ⟨gC, 0, none⟩) 4 cC]) ∧ TrisRd w' (.slice aT 4 cT) W46 ∧ gO < w'.heap.size ∧ w'.cell? ⟨gO, 0, none⟩ = some (.int .i64 2) ∧ gC < w'.heap.size ∧ w'.cell? ⟨gC, 0, none⟩ = some (.int .i64 4) ∧ Below W.heap.size W w') (by
    rintro e w' ⟨vT, vO, vC, he, hT, hO, hC, hb⟩
    rw [rnT46] at he hT hO
    rw [rtT46] at hC
    obtain ⟨aT, cT, rfl⟩ := ownsRow_slice hT
    obtain ⟨gO, cO, rfl, -, lO⟩ := hO.form (by decide)
    obtain ⟨gC, cC, rfl, -, lC⟩ := hC.form (by decide)
    have c0 := hO.cellAt 0 (by decide)
    have c1 := hC.cellAt 0 (by decide)
    exact ⟨aT, cT, gO, cO, gC, cC, he, TrisRd.of_row hT, lO, c0, lC, c1, hb⟩))
  have HSm := Lib.hid (fun (W : World) (v1 v2 : Value) (h1 : TrisRd W v1 W46) (h2 : TrisRd W v2 W46) => (same_any 4 4 v1 v2 W46 W46 W h1 h2 (by decide) (by decide)).mono (R' := fun e w' => e = .returned (.bool true) ∧ Below W.heap.size W w') (by
    rintro e w' ⟨he, hb⟩
    exact ⟨by simpa using he, hb⟩))
  have HEq := Lib.hid (fun (W : World) (v1 v2 : Value) (h1 : TrisRd W v1 T46) (h2 : TrisRd W v2 W46) => (equal_any 4 4 v1 v2 T46 W46 W h1 h2 (by decide) (by decide) (by decide) (by decide)).mono (R' := fun e w' => e = .returned (.bool true) ∧ Below W.heap.size W w') (by
    rintro e w' ⟨b, he, hb1, hb⟩
    rw [hb1.2 formeq46] at he
    exact ⟨he, hb⟩))
  have HLs := Lib.hid (fun (W : World) (v : Value) (h1 : TrisRd W v T46) => (less_any 4 4 v v T46 T46 W h1 h1 (by decide) (by decide)).mono (R' := fun e w' => e = .returned (.bool false) ∧ Below W.heap.size W w') (by
    rintro e w' ⟨he, hb⟩
    rw [ordM_self] at he
    exact ⟨by simpa using he, hb⟩))
  have hb1 := (Blk.new w 61 (ws3 T46).toArray).alloc (.cells #[.int .i64 4, .slice (some ⟨w.heap.size, 0, none⟩) 4 4] 24)
  have hb2 : Blk ((w.alloc (.cells (ws3 T46).toArray 61)).alloc (.cells #[.int .i64 4, .slice (some ⟨w.heap.size, 0, none⟩) 4 4] 24)) (w.heap.size + 1) 24 #[.int .i64 4, .slice (some ⟨w.heap.size, 0, none⟩) 4 4] := blk_new_at (by simp)
  have hB0 : Below w.heap.size w ((w.alloc (.cells (ws3 T46).toArray 61)).alloc (.cells #[.int .i64 4, .slice (some ⟨w.heap.size, 0, none⟩) 4 4] 24)) := ((Below.refl _ _).alloc (Nat.le_refl _) _).alloc (by simp) _
  have hT0 : TrisRd _ (.slice (some ⟨w.heap.size, 0, none⟩) 4 4) T46 := tris_blk hb1 (by decide)
  have e46 : (ws3 T46).toArray = #[.int .i64 0, .int .i64 1, .int .i64 2, .int .i64 0, .int .i64 2, .int .i64 3, .int .i64 0, .int .i64 3, .int .i64 1, .int .i64 1, .int .i64 3, .int .i64 2] := rfl
  rw [e46] at hb1 hb2 hB0 hT0
  have HB0 := Lib.hid hB0
  have HB2 := Lib.hid hb2
  have HT0 := Lib.hid hT0
  obtain ⟨l2, x0, -, x1, -⟩ := hb2.two
  clear hb1 hb2 hB0 hT0 e46
  go_enter Try.func8, Try.ntmps8
  go_upto_region 2 with fail
  generalize (w.alloc (.cells #[.int .i64 0, .int .i64 1, .int .i64 2, .int .i64 0, .int .i64 2, .int .i64 3, .int .i64 0, .int .i64 3, .int .i64 1, .int .i64 1, .int .i64 3, .int .i64 2] 61)).alloc (.cells #[.int .i64 4, .slice (some ⟨w.heap.size, 0, none⟩) 4 4] 24) = W0 at *
  go_upto_region 3 with (go_at_call 22; go_loud (refine (HNew.out _ _ HT0.out).mono ?_; rintro e w1 ⟨g, rfl, hg, hb1⟩))
  have hA1 := (Below.refl w1.heap.size w1).alloc (Nat.le_refl _) (.cells #[.int .i64 0, .int .i64 0, .int .i64 0] 44)
  have hBw := HB0.out.trans ((hb1.trans (hA1.mono hb1.size)).mono HB0.out.size)
  have hK := (HB2.out.below hb1 l2).below hA1 (Nat.lt_of_lt_of_le l2 hb1.size)
  have HT1 := Lib.hid ((HT0.out.below hb1).below hA1)
  have Hg1 := Lib.hid (hg.below hA1)
  clear hA1 hb1 hg x0 x1
  generalize w1.alloc (.cells #[.int .i64 0, .int .i64 0, .int .i64 0] 44) = W1 at *
  have HK1 := Lib.hid hK
  have HB1 := Lib.hid hBw
  obtain ⟨l3, x0, -, x1, -⟩ := hK.two
  clear hK hBw
  go_upto_region 4 with (go_at_call 24; go_loud (refine (HFm.out _ _ HT1.out).mono ?_; rintro e w2 ⟨aF, cF, aO0, nO0, cO0, rfl, hF2, hb2⟩))
  have hA2 := (Below.refl w2.heap.size w2).alloc (Nat.le_refl _) (.cells #[.int .i64 4, .slice aF 4 cF] 24)
  have hBw := HB1.out.trans ((hb2.trans (hA2.mono hb2.size)).mono HB1.out.size)
  have hK := (HK1.out.below hb2 l3).below hA2 (Nat.lt_of_lt_of_le l3 hb2.size)
  have hKf := Blk.new w2 24 #[.int .i64 4, .slice aF 4 cF]
  have HT2 := Lib.hid ((HT1.out.below hb2).below hA2)
  have Hg2 := Lib.hid ((Hg1.out.below hb2).below hA2)
  have HF2 := Lib.hid (hF2.below hA2)
  clear hA2 hb2 hF2 x0 x1
  generalize w2.alloc (.cells #[.int .i64 4, .slice aF 4 cF] 24) = W2 at *
  generalize w2.heap.size = qf at *
  have HK2 := Lib.hid hK
  have HKf2 := Lib.hid hKf
  have HB2 := Lib.hid hBw
  have l4 := hK.lt
  clear hK hBw hKf l2 l3
  go_upto_region 5 with (go_at_call 28; go_loud (refine (HRt.out _ _ Hg2.out).mono ?_; rintro e w3 ⟨aR, cR, gO, cO, gC, cC, rfl, hR3, lO, o3, lC, c3, hb3⟩))
  have hA3 := (Below.refl w3.heap.size w3).alloc (Nat.le_refl _) (.cells #[.int .i64 4, .slice aR 4 cR] 24)
  have hBw := HB2.out.trans ((hb3.trans (hA3.mono hb3.size)).mono HB2.out.size)
  have hK := (HK2.out.below hb3 l4).below hA3 (Nat.lt_of_lt_of_le l4 hb3.size)
  have hKf := (HKf2.out.below hb3 HKf2.out.lt).below hA3 (Nat.lt_of_lt_of_le HKf2.out.lt hb3.size)
  have hKr := Blk.new w3 24 #[.int .i64 4, .slice aR 4 cR]
  have hT3 := (HT2.out.below hb3).below hA3
  have hF3 := (HF2.out.below hb3).below hA3
  have hR3 := hR3.below hA3
  have o4 := (hA3.cell (p := ⟨gO, 0, none⟩) lO).trans o3
  have c4 := (hA3.cell (p := ⟨gC, 0, none⟩) lC).trans c3
  have lO4 := Nat.lt_of_lt_of_le lO hA3.size
  have lC4 := Nat.lt_of_lt_of_le lC hA3.size
  clear hA3 hb3 lO lC o3 c3
  generalize w3.alloc (.cells #[.int .i64 4, .slice aR 4 cR] 24) = W3 at *
  generalize w3.heap.size = qr at *
  obtain ⟨Wt, hWt⟩ : ∃ Wt, (W3.alloc (.cells #[.int .i64 0, .int .i64 1, .int .i64 2, .int .i64 3, .int .i64 2, .int .i64 1, .int .i64 3, .int .i64 0, .int .i64 2, .int .i64 3, .int .i64 1, .int .i64 0] 61)).alloc (.cells #[.int .i64 4, .slice (some ⟨W3.heap.size, 0, none⟩) 4 4] 24) = Wt := ⟨_, rfl⟩
  have hA4 : Below W3.heap.size W3 Wt := by rw [← hWt]; exact ((Below.refl _ _).alloc (Nat.le_refl _) _).alloc (by simp) _
  have hBl : Blk Wt W3.heap.size 61 (ws3 W46).toArray := by rw [← hWt]; exact (Blk.new W3 _ _).alloc _
  have hKw : Blk Wt (W3.heap.size + 1) 24 #[.int .i64 4, .slice (some ⟨W3.heap.size, 0, none⟩) 4 4] := by rw [← hWt]; exact blk_new_at (by simp)
  have hW4 : TrisRd Wt (.slice (some ⟨W3.heap.size, 0, none⟩) 4 4) W46 := tris_blk hBl (by decide)
  have HT4 := Lib.hid (fun (W : World) (hW : Below Wt.heap.size Wt W) => (hT3.below hA4).below hW)
  have HF4 := Lib.hid (fun (W : World) (hW : Below Wt.heap.size Wt W) => (hF3.below hA4).below hW)
  have HR4 := Lib.hid (fun (W : World) (hW : Below Wt.heap.size Wt W) => (hR3.below hA4).below hW)
  have HW4 := Lib.hid (fun (W : World) (hW : Below Wt.heap.size Wt W) => hW4.below hW)
  have k1 := hK.below hA4 hK.lt
  have k2 := hKf.below hA4 hKf.lt
  have k3 := hKr.below hA4 hKr.lt
  have o5 := (hA4.cell (p := ⟨gO, 0, none⟩) lO4).trans o4
  have c5 := (hA4.cell (p := ⟨gC, 0, none⟩) lC4).trans c4
  have lO5 := Nat.lt_of_lt_of_le lO4 hA4.size
  have lC5 := Nat.lt_of_lt_of_le lC4 hA4.size
  have HCs := Lib.hid (fun (W : World) (hW : Below Wt.heap.size Wt W) => And.intro (k1.below hW k1.lt).two (And.intro (k2.below hW k2.lt).two (And.intro (k3.below hW k3.lt).two (And.intro (hKw.below hW hKw.lt).two (And.intro ((hW.cell (p := ⟨gO, 0, none⟩) lO5).trans o5) ((hW.cell (p := ⟨gC, 0, none⟩) lC5).trans c5))))))
  have HBw4 := Lib.hid (hBw.trans (hA4.mono hBw.size))
  obtain ⟨l5, x0, -, x1, -⟩ := hK.two
  clear k1 k2 k3 o5 c5 lO5 lC5 hKw hW4 hBl hA4 hBw hK hKf hKr hT3 hF3 hR3 o4 c4 lO4 lC4
  go_upto_region 6 with fail
  try rw [hWt]
  have hcur : Below Wt.heap.size Wt Wt := Below.refl _ _
  obtain ⟨⟨a0, a1, -, a2, -⟩, ⟨b0, b1, -, b2, -⟩, ⟨d0, d1, -, d2, -⟩, ⟨e0, e1, -, e2, -⟩, g0, h0⟩ := HCs.out _ hcur
  generalize W3.heap.size = qw at *
  clear x0 x1 l5 hWt
  go_wp2_with (first
    | (go_at_call 25; go_loud (refine (HSm.out _ _ _ (by first | exact HF4.out _ hcur | exact HR4.out _ hcur) (HW4.out _ hcur)).mono ?_); rintro e w9 ⟨rfl, hb9⟩; have hcur9 := hcur.trans (hb9.mono hcur.size); clear hb9 a0 a1 a2 b0 b1 b2 d0 d1 d2 e0 e1 e2 g0 h0 hcur; have hcur := hcur9; clear hcur9; obtain ⟨⟨a0, a1, -, a2, -⟩, ⟨b0, b1, -, b2, -⟩, ⟨d0, d1, -, d2, -⟩, ⟨e0, e1, -, e2, -⟩, g0, h0⟩ := HCs.out _ hcur)
    | (go_at_call 11; go_loud (refine (HEq.out _ _ _ (HT4.out _ hcur) (HW4.out _ hcur)).mono ?_); rintro e w9 ⟨rfl, hb9⟩; have hcur9 := hcur.trans (hb9.mono hcur.size); clear hb9 a0 a1 a2 b0 b1 b2 d0 d1 d2 e0 e1 e2 g0 h0 hcur; have hcur := hcur9; clear hcur9; obtain ⟨⟨a0, a1, -, a2, -⟩, ⟨b0, b1, -, b2, -⟩, ⟨d0, d1, -, d2, -⟩, ⟨e0, e1, -, e2, -⟩, g0, h0⟩ := HCs.out _ hcur)
    | (go_at_call 27; go_loud (refine (HLs.out _ _ (HT4.out _ hcur)).mono ?_); rintro e w9 ⟨rfl, hb9⟩; have hcur9 := hcur.trans (hb9.mono hcur.size)))
  go_ret
  exact ⟨by simp, HBw4.out.trans (hcur9.mono HBw4.out.size)⟩
end Go.Proofs.Ytpnkhgjjlionnaa
